/- A part. -/
import Derived.Test.YtdcjkdgjlljodaaAbs27
set_option linter.all false
namespace Abs
open Go
structure RC where
 ag : Bool
 n : Nat
 x : Nat
 d : Nat
structure GO where
 o : EOper
 chg : Bool
 us : List RC
 beh : List Bool
def cr6 (γ : Nat → EV) (s : aa2) (H : Heap) (u : RC) : Prop := az6 u.ag u.n (s u.x) H = some (s u.d)
def forget (ds : List Nat) (s : aa2) (t : Nat) : EV := if ds.contains t then .undef else s t
def Pans (P : Program) (γ : Nat → EV) (s : aa2) (H : Heap) (op : EOp) (pv : EV) (H' : Heap) : Prop :=
 match op with
 | .call f args =>
  match ev γ s f with
  | .func (.func g) first cap => CallsA P γ g (first ++ args.map (ev γ s) ++ cap) H fun er H1 => er = .pan pv ∧ H1 = H'
  | _ => False
 | _ => False
def cy4 (P : Program) (γ : Nat → EV) : List GO → List Bool → aa2 → Heap → Prop
 | [], _, _, _ => True
 | g :: r, bs, s, H => if bs.headD true = true then cy4 P γ r bs.tail s H else g.chg = false ∧ ∃ v, Runs P γ s H g.o v H ∧ cy4 P γ r bs.tail (putA s g.o.dst v) H
def wdG (P : Program) (γ : Nat → EV) (ds : List Nat) (Q : AX → aa2 → Heap → Prop) : List GO → aa2 → Heap → Prop
 | [], s, H => Q .normal s H
 | g :: r, s, H =>
  (∃ v H', Runs P γ s H g.o v H' ∧ (g.chg = false → H' = H) ∧ (∀ u ∈ g.us, cr6 γ (putA s g.o.dst v) H' u) ∧ wdG P γ ds Q r (putA s g.o.dst v) H') ∨
  (g.chg = true ∧ g.o.guard = none ∧ ∃ pv H', Pans P γ s H g.o.op pv H' ∧ cy4 P γ r g.beh s H ∧ Q (.panic pv) (forget ds s) H')
section
variable {P : Program} {γ : Nat → EV} {n : Nat} {nb : NB} {φ φ0 φ' : Nat → Nat} {I I0 I' : Nat → Prop} {s : aa2} {H H0 H' : Heap} {a : Act} {w w0 w' : World}
def csV (v : EV) (val : Nat → EV) : Nat → EV
 | 0 => v
 | j + 1 => val j
def csB (b : Bool) (T : Nat → Bool) : Nat → Bool
 | 0 => b
 | j + 1 => T j
def csH (H : Heap) (hs : Nat → Heap) : Nat → Heap
 | 0 => H
 | j + 1 => hs j
theorem ay7 {v : EV} {val : Nat → EV} (S : Nat → Bool) : ∀ (l : List EOper) (i : Nat) (s : aa2), stS (csV v val) S (i + 1) l s = stS val (fun j => S (j + 1)) i l s
 | [], _, _ => rfl
 | o :: l, i, s => by simp only [stS]; rw [ay7 S l]; rfl
theorem bp0 : ∀ (r : List GO) (bs : List Bool) (s : aa2) (H : Heap), cy4 P γ r bs s H →
  ∃ val : Nat → EV, ∀ k g, r[k]? = some g → bs.getD k true = false → g.chg = false ∧ Runs P γ (stS val (fun j => decide (j < k) && !bs.getD j true) 0 (r.map GO.o) s) H g.o (val k) H
 | [], _, _, _, _ => ⟨fun _ => .undef, by simp⟩
 | g :: r, bs, s, H, h => by
  unfold cy4 at h
  have hb : ∀ k, bs.getD (k + 1) true = bs.tail.getD k true := fun k => by cases bs <;> simp
  have h0 : bs.headD true = bs.getD 0 true := by cases bs <;> rfl
  split at h
  ·rename_i hh
   obtain ⟨val, hv⟩ := bp0 r bs.tail s H h
   refine ⟨csV .undef val, fun k g' hk hbk => ?_⟩
   cases k with
   | zero => rw [← h0, hh] at hbk; simp at hbk
   | succ k =>
    obtain ⟨c1, c2⟩ := hv k g' (by simpa using hk) ((hb k).symm.trans hbk)
    refine ⟨c1, ?_⟩
    simp only [List.map_cons, stS]
    rw [if_neg (by rw [← h0, hh]; simp), ay7]
    have : (fun j => decide (j + 1 < k + 1) && !bs.getD (j + 1) true) = (fun j => decide (j < k) && !bs.tail.getD j true) := by funext j; rw [hb]; simp
    rw [this]
    exact c2
  ·rename_i hh
   obtain ⟨hc, v, hr, h⟩ := h
   obtain ⟨val, hv⟩ := bp0 r bs.tail _ H h
   refine ⟨csV v val, fun k g' hk hbk => ?_⟩
   cases k with
   | zero =>
    simp only [List.getElem?_cons_zero, Option.some.injEq] at hk
    subst hk
    refine ⟨hc, ?_⟩
    rw [ay4 (fun k _ => by simp)]
    exact hr
   | succ k =>
    obtain ⟨c1, c2⟩ := hv k g' (by simpa using hk) ((hb k).symm.trans hbk)
    refine ⟨c1, ?_⟩
    simp only [List.map_cons, stS]
    have hf : bs.getD 0 true = false := by rw [← h0]; simpa using hh
    rw [if_pos (by rw [hf]; simp), ay7]
    have : (fun j => decide (j + 1 < k + 1) && !bs.getD (j + 1) true) = (fun j => decide (j < k) && !bs.tail.getD j true) := by funext j; rw [hb]; simp
    rw [this]
    exact c2
structure Txt (P : Program) (γ : Nat → EV) (ds : List Nat) (Q : AX → aa2 → Heap → Prop) (l : List GO) (s : aa2) (H : Heap) (val : Nat → EV) (hs : Nat → Heap) (T : Nat → Bool) : Prop where
 start : hs 0 = H
 run : ∀ i g, l[i]? = some g → T i = true → Runs P γ (stS val (fun j => decide (j < i) && T j) 0 (l.map GO.o) s) (hs i) g.o (val i) (hs (i + 1)) ∧ (g.chg = false → hs (i + 1) = hs i) ∧
  ∀ u ∈ g.us, g.chg = true → cr6 γ (stS val (fun j => decide (j < i + 1) && T j) 0 (l.map GO.o) s) (hs (i + 1)) u
 stay : ∀ i, T i = false → hs (i + 1) = hs i
 fin : ((∀ i, i < l.length → T i = true) ∧ Q .normal (stS val (fun _ => true) 0 (l.map GO.o) s) (hs l.length)) ∨
  ∃ c g pv H', l[c]? = some g ∧ g.chg = true ∧ g.o.guard = none ∧ T c = false ∧ (∀ i, i < c → T i = true) ∧ (∀ k g', l[c + 1 + k]? = some g' → T (c + 1 + k) = !g.beh.getD k true ∧ (T (c + 1 + k) = true → g'.chg = false)) ∧
   Pans P γ (stS val (fun j => decide (j < c) && T j) 0 (l.map GO.o) s) (hs c) g.o.op pv H' ∧ Q (.panic pv) (forget ds (stS val (fun j => decide (j < c) && T j) 0 (l.map GO.o) s)) H'
theorem ck2 {ds : List Nat} {Q : AX → aa2 → Heap → Prop} : ∀ (l : List GO) (s : aa2) (H : Heap), wdG P γ ds Q l s H → ∃ val hs T, Txt P γ ds Q l s H val hs T
 | [], s, H, h => ⟨fun _ => .undef, fun _ => H, fun _ => true, rfl, by simp, by simp, .inl ⟨by simp, h⟩⟩
 | g :: r, s, H, h => by
  unfold wdG at h
  rcases h with ⟨v, H', h1, h2, h3, h4⟩ | ⟨hc, hg, pv, H', h1, h2, h3⟩
  ·obtain ⟨val, hs, T, t1, t2, t3, t4⟩ := ck2 r _ _ h4
   have sh : ∀ i, stS (csV v val) (fun j => decide (j < i + 1) && csB true T j) 0 ((g :: r).map GO.o) s = stS val (fun j => decide (j < i) && T j) 0 (r.map GO.o) (putA s g.o.dst v) := fun i => by
    simp only [List.map_cons, stS]
    rw [if_pos (by simp [csB]), ay7]
    have : (fun j => decide (j + 1 < i + 1) && csB true T (j + 1)) = (fun j => decide (j < i) && T j) := by funext j; simp [csB]
    rw [this]
    rfl
   refine ⟨csV v val, csH H hs, csB true T, rfl, fun i g' hi hT => ?_, fun i hi => ?_, ?_⟩
   ·cases i with
    | zero =>
     simp only [List.getElem?_cons_zero, Option.some.injEq] at hi
     subst hi
     have e0 : stS (csV v val) (fun j => decide (j < 0) && csB true T j) 0 ((g :: r).map GO.o) s = s := ay4 (fun k _ => by simp)
     rw [e0]
     refine ⟨by rw [show csH H hs (0 + 1) = H' from t1]; exact h1, fun e => by rw [show csH H hs (0 + 1) = H' from t1]; exact h2 e, fun u hu _ => ?_⟩
     rw [sh 0, ay4 (fun k _ => by simp), show csH H hs (0 + 1) = H' from t1]
     exact h3 u hu
    | succ i =>
     obtain ⟨r1, r2, r3⟩ := t2 i g' (by simpa using hi) hT
     rw [sh i, sh (i + 1)]
     exact ⟨r1, r2, r3⟩
   ·cases i with
    | zero => simp [csB] at hi
    | succ i => exact t3 i hi
   ·rcases t4 with ⟨t4, t5⟩ | ⟨c, g', pv, H2, k1, k2, k3, k4, k5, k6, k7, k8⟩
    ·refine .inl ⟨fun i hi => ?_, ?_⟩
     ·cases i with
      | zero => rfl
      | succ i => exact t4 i (by simpa using hi)
     ·simp only [List.map_cons, stS, if_true, List.length_cons]
      rw [ay7]
      exact t5
    ·refine .inr ⟨c + 1, g', pv, H2, by simpa using k1, k2, k3, k4, fun i hi => ?_, fun k g2 hk => ?_, ?_, ?_⟩
     ·cases i with
      | zero => rfl
      | succ i => exact k5 i (by omega)
     ·rw [show c + 1 + 1 + k = (c + 1 + k) + 1 by omega] at hk ⊢
      exact k6 k g2 (by simpa using hk)
     ·rw [sh c]; exact k7
     ·rw [sh c]; exact k8
  ·obtain ⟨val, hv⟩ := bp0 r g.beh s H h2
   have sh : ∀ i, stS (csV .undef val) (fun j => decide (j < i + 1) && csB false (fun k => !g.beh.getD k true) j) 0 ((g :: r).map GO.o) s = stS val (fun j => decide (j < i) && !g.beh.getD j true) 0 (r.map GO.o) s := fun i => by
    simp only [List.map_cons, stS]
    rw [if_neg (by simp [csB]), ay7]
    have : (fun j => decide (j + 1 < i + 1) && csB false (fun k => !g.beh.getD k true) (j + 1)) = (fun j => decide (j < i) && !g.beh.getD j true) := by funext j; simp [csB]
    rw [this]
   have e0 : stS (csV .undef val) (fun j => decide (j < 0) && csB false (fun k => !g.beh.getD k true) j) 0 ((g :: r).map GO.o) s = s := ay4 (fun k _ => by simp)
   refine ⟨csV .undef val, fun _ => H, csB false fun k => !g.beh.getD k true, rfl, fun i g' hi hT => ?_, fun _ _ => rfl, .inr ⟨0, g, pv, H', rfl, hc, hg, rfl, fun i hi => by omega, fun k g' hk => ?_, ?_, ?_⟩⟩
   ·cases i with
    | zero => simp [csB] at hT
    | succ i =>
     obtain ⟨c1, c2⟩ := hv i g' (by simpa using hi) (by simpa [csB] using hT)
     refine ⟨by rw [sh i]; exact c2, fun _ => rfl, fun u _ e => ?_⟩
     rw [c1] at e; simp at e
   ·rw [show 0 + 1 + k = k + 1 by omega] at hk ⊢
    refine ⟨rfl, fun e => (hv k g' (by simpa using hk) (by simpa [csB] using e)).1⟩
   ·rw [e0]; exact h1
   ·rw [e0]; exact h3
def PG (γ : Nat → EV) (n : Nat) (nb : NB) (φ : Nat → Nat) (I : Nat → Prop) (H : Heap) (w : World) (Hc : Heap) (σ : aa2) (al : List EOper) (k : Nat) (S : Nat → Bool) (a' : Act) (w' : World) : Prop :=
 ∃ (φ' : Nat → Nat) (I' : Nat → Prop) (β : Nat → Nat), Evo φ I H w φ' I' Hc w' ∧ Rel γ n nb φ' I' σ Hc a' w' ∧
  (∀ j d z, al[j]? = some { dst := some d, op := .box (.c z), guard := none } → S (k + j) = true → a'.tmps.getD d Go.undef = .pointer (some ⟨β j, 0, none⟩) ∧ BF φ' I' Hc w w' z (β j)) ∧
  ∀ i j, i < al.length → j < al.length → S (k + i) = true → S (k + j) = true → β i = β j → i = j
theorem stepG {Q : AX → aa2 → Heap → Prop} {own : List Nat} {ops : Array Oper} {pre al : List EOper} {σ σ' : aa2} {Hc Hd : Heap} {S : Nat → Bool} {i : Nat} {o : Oper} {eo : EOper} {v : EV} (hd : ∀ d ∈ af2 al, d ∉ af2 pre)
  (hi : ops[i]? = some o) (hpi : pre[i]? = some eo) (heo : ai5 P n own ops o = some eo) (h : PG γ n nb φ I H w Hc σ al pre.length S a w') (hr : Runs P γ σ Hc eo v Hd) (hσ : putA σ eo.dst v = σ') :
  wpOp P ops (Post γ n nb φ I H w Q) i (PG γ n nb φ I H w Hd σ' al pre.length fun j => S j || j == i) a w' := by
 obtain ⟨φ', I', β, h1, h2, h3, h4⟩ := h
 have hS : ∀ j, (S (pre.length + j) || pre.length + j == i) = S (pre.length + j) := fun j => by
  have := aa3 hpi
  have : (pre.length + j == i) = false := by simp; omega
  rw [this, Bool.or_false]
 refine bi4 hi heo h1 h2 hr fun φ2 I2 a2 w2 val e1 e2 e3 => ⟨φ2, I2, β, h1.trans e1, hσ ▸ e2, fun j d z hj hs => ?_, fun i' j hi' hj s1 s2 => ?_⟩
 ·replace hs := (hS j).symm.trans hs
  obtain ⟨c1, c2⟩ := h3 j d z hj hs
  refine ⟨?_, c2.evo h2.heap e1⟩
  rw [e3, by3, c1]
  intro e
  exact hd d (aq0 hj rfl) (aq0 hpi e)
 ·exact h4 i' j hi' hj ((hS i').symm.trans s1) ((hS j).symm.trans s2)
theorem dl4 {Q : AX → aa2 → Heap → Prop} {own : List Nat} {ops : Array Oper} {al : List EOper} {k j0 : Nat} {σ σ' : aa2} {Hc : Heap} {S : Nat → Bool} {o : Oper} {d0 : Nat} {z0 : EV} (hal : al.all cc3 = true) (hnd : (af2 al).Nodup) (hz : z0.ok 0 = true)
  (hone : z0.cells.all EV.one = true)
  (hi : ops[k + j0]? = some o) (hj0 : al[j0]? = some { dst := some d0, op := .box (.c z0), guard := none }) (heo : ai5 P n own ops o = some { dst := some d0, op := .box (.c z0), guard := none }) (h : PG γ n nb φ I H w Hc σ al k S a w')
  (hσ : putA σ (some d0) .undef = σ') :
  wpOp P ops (Post γ n nb φ I H w Q) (k + j0) (PG γ n nb φ I H w Hc σ' al k fun j => S j || j == k + j0) a w' := by
 obtain ⟨φ', I', β, h1, h2, h3, h4⟩ := h
 obtain ⟨⟨b, hres⟩, hdst, hd, hg⟩ := ah7 heo
 have hgn : o.guard = none := by
  cases ho : o.guard with
  | none => rfl
  | some p =>
   obtain ⟨j, bb⟩ := p
   rw [ho] at hg
   obtain ⟨d, _, _, hg⟩ := hg
   simp at hg
 have hod : o.dst = some d0 := by simpa using hdst.symm
 have hd0 : d0 < n := hd d0 hod
 have hwop : wop P γ (fun v H' => Q (.panic v) σ H') (ev γ σ) Hc (.box (.c z0)) fun v H' => v = .ptr Hc.length z0.cells.length 0 0 ∧ H' = Hc ++ [some (.row z0.cells.length [z0])] :=
  cc9 (v := .ptr Hc.length z0.cells.length 0 0) (H' := Hc ++ [some (.row z0.cells.length [z0])]) (by simp [evOp, ev, hone]) ⟨rfl, rfl⟩
 have hb0 : (Hc ++ [some (EB.row z0.cells.length [z0])])[Hc.length]? = some (some (.row z0.cells.length [z0])) := by simp
 have htk : (Hc ++ [some (EB.row z0.cells.length [z0])]).take Hc.length = Hc := by simp
 have hbH : ∀ (b : Nat) (x : EB), Hc[b]? = some (some x) → (Hc ++ [some (EB.row z0.cells.length [z0])])[b]? = some (some x) := fun b x hb => by rw [List.getElem?_append_left (aa3 hb)]; exact hb
 unfold wpOp
 rw [hi]
 simp only
 rw [if_pos (by simp [Region.wanted, hgn])]
 refine .inl (bl2 (fun e a' w' hp => Post.trans h1 hp) (Oper.wp_mono (fun a2 w2 hh => ?_) (bm4 (Q := Q) h2 hres hd hwop)))
 obtain ⟨φ2, I2, H1, v, e1, e2, ⟨rfl, rfl⟩, val, e5, e6⟩ := hh
 have hnew : w'.heap.size ≤ φ2 Hc.length := by
  rcases e1.own _ ⟨_, _, hb0, rfl⟩ with ⟨b, x, hb, e⟩ | h
  ·have hlt := aa3 hb
   have := e2.heap.inj b _ x _ (hbH b x hb) hb0 (by rw [e1.phi b hlt]; exact e)
   omega
  ·exact h
 have hno : ¬ Own φ2 Hc (φ2 Hc.length) := by
  rintro ⟨b, x, hb, e⟩
  have hlt := aa3 hb
  have := e2.heap.inj b _ x _ (hbH b x hb) hb0 e
  omega
 have e1' : Evo φ' I' Hc w' φ2 I2 Hc w2 := by
  have := e1.take (L := Hc.length) (Nat.le_refl _)
  rwa [htk] at this
 have hok := h2.heap.isOk
 have e2' : Rel γ n nb φ2 I2 σ' Hc a2 w2 := by
  have := e2.forget (L := Hc.length) (s' := σ') ⟨fun t => ?_, fun b x hb hx => ?_⟩
  ·rwa [htk] at this
  ·subst hσ
   rw [hod]
   simp only [putA, upd]
   by_cases ht : t = d0
   ·rw [if_pos ht]; exact .inl rfl
   ·rw [if_neg ht, if_neg ht]; exact .inr ⟨rfl, (h2.slots t).isOk⟩
  ·rw [List.getElem?_append_left hb] at hx
   exact hok b x hx
 have hval : val = .pointer (some ⟨φ2 Hc.length, 0, none⟩) := by
  cases e6
  simp
 subst hval
 have hbf : BF φ2 I2 Hc w w2 z0 (φ2 Hc.length) :=
  ⟨Nat.le_trans h1.size hnew, e2.heap.dis _ _ hb0, hno, (e2.heap.blk _ _ hb0).trunc (by simp [EB.ok, okL, hz])⟩
 have hS : ∀ j, j ≠ j0 → (S (k + j) || k + j == k + j0) = S (k + j) := fun j hj => by
  have : (k + j == k + j0) = false := by simp; omega
  rw [this, Bool.or_false]
 obtain ⟨β', hβ0, hβ⟩ : ∃ β' : Nat → Nat, β' j0 = φ2 Hc.length ∧ ∀ j, j ≠ j0 → β' j = β j := ⟨fun j => if j = j0 then φ2 Hc.length else β j, by simp, fun j h => if_neg h⟩
 refine ⟨φ2, I2, β', h1.trans e1', e2', fun j d z hj hs => ?_, fun i j hi' hj' s1 s2 e => ?_⟩
 ·by_cases hjj : j = j0
  ·subst hjj
   rw [hj0] at hj
   simp only [Option.some.injEq, EOper.mk.injEq, EOp.box.injEq, EOpd.c.injEq, and_true] at hj
   obtain ⟨rfl, rfl⟩ := hj
   rw [hβ0]
   refine ⟨?_, hbf⟩
   rw [e5, hod]
   simp [Act.put, h2.sz, hd0]
  ·rw [hβ j hjj]
   replace hs := (hS j hjj).symm.trans hs
   obtain ⟨c1, c2⟩ := h3 j d z hj hs
   refine ⟨?_, c2.evo h2.heap e1'⟩
   rw [e5, by3, c1]
   intro e
   rw [hod] at e
   simp only [Option.some.injEq] at e
   subst e
   exact hjj (bj1 hnd hj hj0 rfl rfl)
 ·have hlt : ∀ j, j < al.length → j ≠ j0 → (S (k + j) || k + j == k + j0) = true → φ2 Hc.length ≠ β j := fun j hj hjj hs e => by
   rw [hS j hjj] at hs
   obtain ⟨d, z, ho, _⟩ := bt1 (List.all_eq_true.1 hal al[j] (List.getElem_mem hj))
   have := (h3 j d z (by rw [← ho]; simp [hj]) hs).2.lt
   omega
  by_cases hi0 : i = j0 <;> by_cases hj0' : j = j0
  ·omega
  ·rw [hi0, hβ0, hβ j hj0'] at e
   exact absurd e (hlt j hj' hj0' s2)
  ·rw [hj0', hβ0, hβ i hi0] at e
   exact absurd e.symm (hlt i hi' hi0 s1)
  ·rw [hβ i hi0, hβ j hj0'] at e
   exact h4 i j hi' hj' ((hS i hi0).symm.trans s1) ((hS j hj0').symm.trans s2) e
/-! ### The theorem -/
def cv5 (ds : List Nat) (Q : AX → aa2 → Heap → Prop) : AX → aa2 → Heap → Prop
 | .panic v, s, H => Q (.panic v) (forget ds s) H
 | x, s, H => Q x s H
theorem ct8 {ds : List Nat} {Q : AX → aa2 → Heap → Prop} {e : Exit} {a' : Act} {w' : World} (h : Post γ n nb φ I H w (cv5 ds Q) e a' w') : Post γ n nb φ I H w Q e a' w' := by
 obtain ⟨φ', I', s', H', x, e1, e2, e3, e4⟩ := h
 cases x with
 | panic v =>
  have hr := e2.forget (L := H'.length) (s' := forget ds s') ⟨fun t => by
   unfold forget
   split
   ·exact .inl rfl
   ·exact .inr ⟨rfl, (e2.slots t).isOk⟩, fun b x _ hx => e2.heap.isOk b x hx⟩
  rw [List.take_of_length_le (Nat.le_refl _)] at hr
  exact ⟨φ', I', forget ds s', H', .panic v, e1, hr, e3, e4⟩
 | _ => exact ⟨φ', I', s', H', _, e1, e2, e3, e4⟩
theorem Pans.congr {s' : aa2} {op : EOp} {pv : EV} (h : ∀ t ∈ op.opds.filterMap EOpd.tmp, s t = s' t) (g : Pans P γ s H op pv H') : Pans P γ s' H op pv H' := by
 have hx : ∀ x ∈ op.opds, ev γ s x = ev γ s' x := fun x hx => br6 fun t ht => h t (List.mem_filterMap.2 ⟨x, hx, ht⟩)
 cases op with
 | call f args =>
  simp only [Pans] at g ⊢
  have h1 : ev γ s f = ev γ s' f := hx f (by simp [EOp.opds])
  have h2 : args.map (ev γ s) = args.map (ev γ s') := List.map_congr_left fun x hxx => hx x (by simp [EOp.opds, hxx])
  rw [← h1, ← h2]
  exact g
 | _ => exact g.elim
theorem de3 {Q : AX → aa2 → Heap → Prop} {ds : List Nat} {own : List Nat} {ops : Array Oper} {i : Nat} {o : Oper} {eo : EOper} {σ : aa2} {pv : EV} {K : Act → World → Prop} (hi : ops[i]? = some o) (heo : ai5 P n own ops o = some eo) (hgd : eo.guard = none)
  (hev : Evo φ0 I0 H0 w0 φ I H w) (hR : Rel γ n nb φ I σ H a w) (h : Pans P γ σ H eo.op pv H') (hq : Q (.panic pv) (forget ds σ) H') : wpOp P ops (Post γ n nb φ0 I0 H0 w0 Q) i K a w := by
 obtain ⟨⟨b, hres⟩, hdst, hd, hg⟩ := ah7 heo
 have hgo : o.guard = none := by
  cases ho : o.guard with
  | none => rfl
  | some p =>
   obtain ⟨j, bb⟩ := p
   rw [ho] at hg
   obtain ⟨d, _, _, hg⟩ := hg
   rw [hgd] at hg
   simp at hg
 have hw : wop P γ (fun v H' => cv5 ds Q (.panic v) σ H') (ev γ σ) H eo.op fun _ _ => False := by
  cases hop : eo.op with
  | call f args =>
   rw [hop] at h
   simp only [Pans] at h
   unfold wop
   simp only
   split at h
   ·rename_i g first cap hf
    rw [hf]
    exact ⟨_, h, fun er H1 he => by obtain ⟨rfl, rfl⟩ := he; exact hq⟩
   ·exact h.elim
  | _ => rw [hop] at h; exact h.elim
 unfold wpOp
 rw [hi]
 simp only
 rw [if_pos (by simp [Region.wanted, hgo])]
 refine .inl (bl2 (fun e a' w' hp => Post.trans hev (ct8 hp)) (Oper.wp_mono (fun a2 w2 hh => ?_) (bk2 (Q := cv5 ds Q) hR hres hd hw)))
 obtain ⟨_, _, _, _, _, _, hf⟩ := hh
 exact hf.elim
def ee7 (pre : List EOper) (us : List RC) (j i : Nat) : Bool :=
 match (pre.getD j default).op, (pre.getD j default).guard, (pre.getD j default).dst with
 | .load ag m (.t k), none, some d =>
  us.any (fun u => u.ag == ag && u.n == m && u.x == k && u.d == d) &&
  (List.range pre.length).all fun p => decide (i < p) || decide (p < j) || (!((pre.getD p default).dst == some k) && (decide (p ≤ j) || !((pre.getD p default).dst == some d)))
 | _, _, _ => false
def okDG (gs : List GO) (al post : List EOper) (deps pr : List (List Nat)) (ds : List Nat) : Bool :=
 al.all cc3 && decide (af2 al).Nodup && (af2 al).all (fun d => !(af2 (gs.map GO.o)).contains d) &&
 ((List.range (gs.length + al.length)).all fun i =>
   (deps.getD i []).all (· < i) &&
   (pr.getD i []).all (fun j => (deps.getD i []).any fun k => k == j || (pr.getD k []).contains j) &&
   (List.range i).all fun j => !ag8 ((gs.map GO.o ++ al.map az8).getD j default) ((gs.map GO.o ++ al.map az8).getD i default) || (pr.getD i []).contains j) &&
 ((List.range gs.length).all fun i => (List.range i).all fun j => (pr.getD i []).contains j ||
   (!((gs.map GO.chg).getD j false && (((gs.map GO.o).getD i default).op.looks || (gs.map GO.chg).getD i false)) &&
    (!((gs.map GO.chg).getD i false && ((gs.map GO.o).getD j default).op.looks) || ee7 (gs.map GO.o) ((gs.map GO.us).getD i []) j i))) &&
 gs.all (fun g => !g.chg || g.o.op.eff) &&
 ((List.range gs.length).all fun i => (List.range (gs.length - i - 1)).all fun k => !(gs.map GO.chg).getD i false || ((gs.map GO.beh).getD i []).getD k true == (pr.getD (i + 1 + k) []).contains i) &&
 (af2 (gs.map GO.o)).all (fun d => ds.contains d) && (af2 al).all (fun d => ds.contains d) &&
 post.all (fun o => o.guard.isNone) &&
 ((List.range post.length).all fun i =>
   (deps.getD (gs.length + al.length + i) []).all (· < gs.length + al.length + i) &&
   (pr.getD (gs.length + al.length + i) []).all (fun j => (deps.getD (gs.length + al.length + i) []).any fun k => k == j || (pr.getD k []).contains j) &&
   (List.range (gs.length + al.length + i)).all fun j => (pr.getD (gs.length + al.length + i) []).contains j || (decide (j < gs.length) && bv3 ((gs.map GO.o).getD j default) (post.getD i default))) &&
 (List.range gs.length).all fun i => (List.range gs.length).all fun j => i == j || !isL (gs.length + al.length) post.length pr i || !isL (gs.length + al.length) post.length pr j || !ag8 ((gs.map GO.o).getD i default) ((gs.map GO.o).getD j default)
set_option maxHeartbeats 4000000 in
theorem cw8 {Q : AX → aa2 → Heap → Prop} {own : List Nat} {ops : Array Oper} {gs : List GO} {al post : List EOper} {pr : List (List Nat)} {ds : List Nat} (hl : ops.toList.mapM (ai5 P n own ops) = some (gs.map GO.o ++ (al ++ post)))
  (hok : okDG gs al post (ae0 ops) pr ds = true) (hR : Rel γ n nb φ I s H a w) (h : wdG P γ ds (ba5 (fun s1 H1 => wops P γ Q (al ++ post) s1 H1) Q) gs s H) :
  wpAny P .any ops (Post γ n nb φ I H w Q) ops.size (Array.replicate ops.size false) a { w with drawn := w.drawn + 1 } := by
 simp only [okDG, Bool.and_eq_true, decide_eq_true_eq] at hok
 obtain ⟨⟨⟨⟨⟨⟨⟨⟨⟨⟨⟨k1, k2⟩, k3⟩, k4⟩, k4b⟩, k4c⟩, k4d⟩, kd1⟩, kd2⟩, k5⟩, k6⟩, k7⟩ := hok
 obtain ⟨val0, hs, T, txt⟩ := ck2 gs s H h
 obtain ⟨ml, mres⟩ := ao1 hl
 obtain ⟨pre, hpre⟩ : ∃ pre, pre = gs.map GO.o := ⟨_, rfl⟩
 obtain ⟨chg, hchg⟩ : ∃ chg : Nat → Bool, ∀ i, chg i = (gs.map GO.chg).getD i false := ⟨_, fun _ => rfl⟩
 have hpl : pre.length = gs.length := by rw [hpre]; simp
 have gget : ∀ i (hi : i < pre.length), gs[i]? = some (gs[i]'(by omega)) ∧ pre[i] = (gs[i]'(by omega)).o ∧ chg i = (gs[i]'(by omega)).chg := fun i hi => by
  have : i < gs.length := by omega
  refine ⟨by simp [this], by simp [hpre], by rw [hchg]; simp [this]⟩
 simp only [← hpre, ← hpl] at k3 k4 k4b k4d kd1 k6 k7 hl ml mres
 have txr := txt.run
 have txf := txt.fin
 rw [← hpre] at txr txf
 have hsz : pre.length + (al.length + post.length) = ops.size := by simpa using ml
 obtain ⟨l1, hl1⟩ : ∃ l1, l1 = pre ++ al.map az8 := ⟨_, rfl⟩
 have hll : l1.length = pre.length + al.length := by rw [hl1]; simp
 obtain ⟨val, hv1, hv2⟩ : ∃ val : Nat → EV, (∀ i, i < pre.length → val i = val0 i) ∧ ∀ i, pre.length ≤ i → val i = .undef :=
  ⟨fun i => if i < pre.length then val0 i else .undef, fun i hi => if_pos hi, fun i hi => if_neg (by omega)⟩
 have hvS : ∀ (S : Nat → Bool) (s : aa2), stS val S 0 pre s = stS val0 S 0 pre s := by
  have : ∀ (S : Nat → Bool) (l : List EOper) (i : Nat) (s : aa2), i + l.length ≤ pre.length → stS val S i l s = stS val0 S i l s := by
   intro S l
   induction l with
   | nil => intro i s _; rfl
   | cons o l ih =>
    intro i s hi
    simp only [List.length_cons] at hi
    simp only [stS]
    rw [hv1 i (by omega), ih (i + 1) _ (by omega)]
  exact fun S s => this S pre 0 s (by omega)
 have get1 : ∀ i (hi : i < pre.length), l1[i]? = some pre[i] := fun i hi => by rw [hl1, List.getElem?_append_left hi]; simp [hi]
 have get2 : ∀ j (hj : j < al.length), l1[pre.length + j]? = some (az8 al[j]) := fun j hj => by rw [hl1, List.getElem?_append_right (by omega)]; simp [hj]
 obtain ⟨T', hT1, hT2⟩ : ∃ T' : Nat → Bool, (∀ i, i < pre.length → T' i = T i) ∧ ∀ i, pre.length ≤ i → T' i = true := ⟨fun i => if i < pre.length then T i else true, fun i hi => if_pos hi, fun i hi => if_neg (by omega)⟩
 have l1D : ∀ k (hk : k < l1.length), l1.getD k default = l1[k] := fun k hk => by simp [hk]
 have ok1 : ∀ i, i < l1.length → (∀ k ∈ (ae0 ops).getD i [], k < i) ∧ (∀ j ∈ pr.getD i [], ∃ k ∈ (ae0 ops).getD i [], k = j ∨ j ∈ pr.getD k []) ∧ ∀ j, j < i → ag8 (l1.getD j default) (l1.getD i default) = true → j ∈ pr.getD i [] := by
  intro i hi
  have := List.all_eq_true.1 k4 i (List.mem_range.2 (by omega))
  rw [← hl1] at this
  simp only [Bool.and_eq_true, List.all_eq_true, decide_eq_true_eq, List.any_eq_true, Bool.or_eq_true, beq_iff_eq, List.contains_iff_mem, List.mem_range, Bool.not_eq_true'] at this
  refine ⟨this.1.1, this.1.2, fun j hj hme => ?_⟩
  rcases this.2 j hj with h | h
  ·rw [hme] at h; simp at h
  ·exact h
 have ok2 : ∀ i, i < pre.length → ∀ j, j < i → j ∈ pr.getD i [] ∨ ((chg j = true → (pre.getD i default).op.looks = false ∧ chg i = false) ∧ (chg i = true → (pre.getD j default).op.looks = true → ee7 pre ((gs.map GO.us).getD i []) j i = true)) := by
  intro i hi j hj
  have := List.all_eq_true.1 (List.all_eq_true.1 k4b i (List.mem_range.2 hi)) j (List.mem_range.2 hj)
  simp only [Bool.and_eq_true, Bool.or_eq_true, Bool.not_eq_true', Bool.and_eq_false_iff, Bool.or_eq_false_iff, List.contains_iff_mem, ← hchg] at this
  rcases this with h | ⟨h1, h2⟩
  ·exact .inl h
  ·refine .inr ⟨fun hc => ?_, fun hc hl => ?_⟩
   ·rcases h1 with h1 | h1
    ·rw [hc] at h1; simp at h1
    ·exact h1
   ·rcases h2 with (h2 | h2) | h2
    ·rw [hc] at h2; simp at h2
    ·rw [hl] at h2; simp at h2
    ·exact h2
 have looks_chg : ∀ i (hi : i < pre.length), chg i = true → pre[i].op.looks = true := fun i hi hc => by
  obtain ⟨g1, g2, g3⟩ := gget i hi
  have := List.all_eq_true.1 k4c _ (List.mem_of_getElem? g1)
  rw [← g3, hc] at this
  rw [g2]
  exact bl7 (by simpa using this)
 have okd : ∀ i, i < ops.size → (∀ k ∈ (ae0 ops).getD i [], k < i) ∧ ∀ j ∈ pr.getD i [], ∃ k ∈ (ae0 ops).getD i [], k = j ∨ j ∈ pr.getD k [] := by
  intro i hi
  by_cases hp : i < l1.length
  ·have := ok1 i hp
   exact ⟨this.1, this.2.1⟩
  ·have := List.all_eq_true.1 k6 (i - (pre.length + al.length)) (List.mem_range.2 (by omega))
   rw [show pre.length + al.length + (i - (pre.length + al.length)) = i by omega] at this
   simp only [Bool.and_eq_true, List.all_eq_true, decide_eq_true_eq, List.any_eq_true, Bool.or_eq_true, beq_iff_eq, List.contains_iff_mem, List.mem_range] at this
   exact ⟨this.1.1, this.1.2⟩
 have okp : ∀ i, l1.length ≤ i → i < ops.size → ∀ j, j < i → j ∈ pr.getD i [] ∨ (j < pre.length ∧ j ∉ pr.getD i [] ∧ bv3 (pre.getD j default) (post.getD (i - l1.length) default) = true) := by
  intro i hi hi' j hj
  have := List.all_eq_true.1 k6 (i - (pre.length + al.length)) (List.mem_range.2 (by omega))
  rw [show pre.length + al.length + (i - (pre.length + al.length)) = i by omega] at this
  simp only [Bool.and_eq_true, List.all_eq_true, List.contains_iff_mem, List.mem_range, Bool.or_eq_true, decide_eq_true_eq] at this
  rcases this.2 j hj with h | h
  ·exact .inl h
  ·by_cases hm : j ∈ pr.getD i []
   ·exact .inl hm
   ·exact .inr ⟨h.1, hm, by rw [hll]; exact h.2⟩
 have isL_of : ∀ i, l1.length ≤ i → i < ops.size → ∀ j, j ∉ pr.getD i [] → isL (pre.length + al.length) post.length pr j = true := by
  intro i hi hi' j hj
  unfold isL
  refine List.any_eq_true.2 ⟨i - l1.length, List.mem_range.2 (by omega), ?_⟩
  rw [show pre.length + al.length + (i - l1.length) = i by omega]
  simpa using hj
 have apartL : ∀ i j, i < pre.length → j < pre.length → i ≠ j → isL (pre.length + al.length) post.length pr i = true → isL (pre.length + al.length) post.length pr j = true → ag8 (pre.getD i default) (pre.getD j default) = false := by
  intro i j hi hj hne h1 h2
  have := List.all_eq_true.1 (List.all_eq_true.1 k7 i (List.mem_range.2 hi)) j (List.mem_range.2 hj)
  rw [h1, h2] at this
  simpa [hne] using this
 obtain ⟨σ, hσ⟩ : ∃ σ : (Nat → Bool) → aa2, ∀ S, σ S = stS val S 0 l1 s := ⟨_, fun _ => rfl⟩
 obtain ⟨cg, hcg⟩ : ∃ cg : Nat → Bool, ∀ c, cg c = (decide (c < pre.length) && chg c && T c) := ⟨_, fun _ => rfl⟩
 obtain ⟨eta, heta⟩ : ∃ eta : (Nat → Bool) → Heap, ∀ S, eta S = hpS hs cg S pre.length := ⟨_, fun _ => rfl⟩
 have hd : ∀ d ∈ af2 al, d ∉ af2 pre := fun d hd => by have := List.all_eq_true.1 k3 d hd; simpa using this
 -- the heaps
 have hch0 : ∀ c, c < pre.length → cg c = false → hs (c + 1) = hs c := by
  intro c hc hcc
  obtain ⟨g1, g2, g3⟩ := gget c hc
  cases hT : T c with
  | false => exact txt.stay c hT
  | true =>
   refine (txr c _ g1 hT).2.1 ?_
   rw [hcg, hT] at hcc
   rw [← g3]
   simpa [hc] using hcc
 have hpAt : ∀ (S : Nat → Bool) (i : Nat), i ≤ pre.length → (∀ c, c < pre.length → cg c = true → S c = decide (c < i)) → eta S = hs i := by
  intro S i hi hS
  have key : ∀ k, k ≤ pre.length → hpS hs cg S k = hs (min k i) := by
   intro k
   induction k with
   | zero => intro _; simp [hpS]
   | succ k ih =>
    intro hk
    have ih' := ih (by omega)
    simp only [hpS]
    cases hck : cg k with
    | false =>
     simp only [Bool.and_false, Bool.false_eq_true, if_false, ih']
     by_cases hki : k < i
     ·rw [Nat.min_eq_left (by omega), Nat.min_eq_left (by omega), hch0 k (by omega) hck]
     ·rw [Nat.min_eq_right (by omega), Nat.min_eq_right (by omega)]
    | true =>
     have h1 := hS k (by omega) hck
     by_cases hki : k < i
     ·simp only [h1, hki, decide_true, Bool.and_true, if_true]; rw [Nat.min_eq_left (by omega)]
     ·simp only [h1, hki, decide_false, Bool.false_and, Bool.false_eq_true, if_false, ih']
      rw [Nat.min_eq_right (by omega), Nat.min_eq_right (by omega)]
  have := key pre.length (Nat.le_refl _)
  rw [heta, this, Nat.min_eq_right hi]
 have eta_add : ∀ (S : Nat → Bool) (i : Nat), cg i = false → eta (fun j => S j || j == i) = eta S := by
  intro S i hi
  rw [heta, heta]
  have : ∀ k, hpS hs cg (fun j => S j || j == i) k = hpS hs cg S k := by
   intro k
   induction k with
   | zero => rfl
   | succ k ih =>
    simp only [hpS, ih]
    by_cases hki : k = i
    ·subst hki; simp [hi]
    ·simp [hki]
  exact this _
 -- the slots
 obtain ⟨txS, htxS⟩ : ∃ txS : Nat → aa2, ∀ i, txS i = stS val (fun j => decide (j < i) && T' j) 0 l1 s := ⟨_, fun _ => rfl⟩
 have txS_eq : ∀ i, i ≤ pre.length → txS i = stS val0 (fun j => decide (j < i) && T j) 0 pre s := by
  intro i hi
  rw [htxS, hl1, ba9, hvS, ay4 (fun k hk => by simp; omega)]
  exact bk3 fun k hk => by rw [Nat.zero_add, hT1 k hk]
 have textRun : ∀ i (hi : i < pre.length), T i = true → Runs P γ (txS i) (hs i) pre[i] (val i) (hs (i + 1)) := by
  intro i hi hT
  obtain ⟨g1, g2, g3⟩ := gget i hi
  rw [txS_eq i (by omega), hv1 i hi, g2]
  exact (txr i _ g1 hT).1
 have slotsEq : ∀ (S : Nat → Bool), (∀ i, i < l1.length → S i = true → ∀ k ∈ (ae0 ops).getD i [], S k = true) → (∀ k, k < l1.length → S k = true → T' k = true) → ∀ i (hi : i < l1.length), S i = false →
   (∀ j (hj : j < i), ag8 (l1[j]'(by omega)) l1[i] = true → S j = true) → (∀ t ∈ l1[i].reads, txS i t = σ S t) ∧ putA (σ S) l1[i].dst (val i) = σ fun j => S j || j == i := by
  intro S hSc sub i hi hSi before
  have preIn := by4 (fun i hi => ⟨(ok1 i hi).1, (ok1 i hi).2.1⟩) S hSc
  have meets_behind : ∀ j (hj : i < j) (hj' : j < l1.length), ag8 l1[i] l1[j] = true → S j = false := fun j hj hj' hme => by
   cases hSj : S j with
   | false => rfl
   | true =>
    have := preIn j hj' (hSc j hj' hSj) i ((ok1 j hj').2.2 i hj (by rw [l1D j hj', l1D i hi]; exact hme))
    rw [hSi] at this; simp at this
  refine ⟨fun t ht => ?_, ?_⟩
  ·rw [htxS, hσ]
   refine bb4 l1 0 s s (fun k o hk hd => ?_) rfl
   rw [Nat.zero_add]
   have hkl := aa3 hk
   have hok : l1[k] = o := by simpa [hkl] using hk
   rcases Nat.lt_trichotomy k i with hlt | rfl | hgt
   ·have h1 := before k hlt (by simp [ag8, hok, hd, ht])
    rw [h1, sub k hkl h1]; simp [hlt]
   ·rw [hSi]; simp
   ·rw [meets_behind k hgt hkl (by simp [ag8, hok, hd, ht])]; simp; omega
  ·rw [hσ, hσ]
   funext t
   by_cases hd : l1[i].dst = some t
   ·rw [hd]
    have := bk4 (val := val) (S := fun j => S j || j == i) (t := t) l1 0 i s l1[i] (by simp [hi]) hd (by simp) (fun k o' hk hk' hSk hd' => by
     have hkl := aa3 hk'
     have hok : l1[k] = o' := by simpa [hkl] using hk'
     simp only [Nat.zero_add, Bool.or_eq_true, beq_iff_eq] at hSk
     rcases hSk with hSk | hSk
     ·rw [meets_behind k hk hkl (by simp [ag8, hok, hd, hd'])] at hSk; simp at hSk
     ·omega)
    rw [this]
    simp [putA, upd]
   ·rw [an8 hd]
    refine bb4 l1 0 s s (fun k o hk hd' => ?_) rfl
    rw [Nat.zero_add]
    by_cases hki : k = i
    ·subst hki
     have hok : l1[k] = o := by simpa [hi] using hk
     rw [hok] at hd
     exact absurd hd' hd
    ·simp [hki]
 have eq1 : ∀ i (hi : i < pre.length), l1[i]'(by omega) = pre[i] := fun i hi => by have := get1 i hi; simpa [show i < l1.length by omega] using this
 have pD : ∀ i (hi : i < pre.length), pre.getD i default = pre[i] := fun i hi => by simp [hi]
 have oneG : ∀ (S : Nat → Bool), (∀ i, i < l1.length → S i = true → ∀ k ∈ (ae0 ops).getD i [], S k = true) → (∀ k, k < l1.length → S k = true → T' k = true) → ∀ i (hi : i < pre.length), T i = true → S i = false →
   (∀ j ∈ pr.getD i [], S j = true) → Runs P γ (σ S) (eta S) pre[i] (val i) (eta fun j => S j || j == i) := by
  intro S hSc sub i hi hTi hSi hprein
  have preIn := by4 (fun i hi => ⟨(ok1 i hi).1, (ok1 i hi).2.1⟩) S hSc
  have rd := (slotsEq S hSc sub i (by omega) hSi (fun j hj hme => hprein j ((ok1 i (by omega)).2.2 j hj (by rw [l1D j (by omega), l1D i (by omega)]; exact hme)))).1
  rw [eq1 i hi] at rd
  have ht := (textRun i hi hTi).congr rd
  have behind : ∀ j, i < j → j < pre.length → i ∈ pr.getD j [] → S j = false := by
   intro j hj hj' hp
   cases hSj : S j with
   | false => rfl
   | true =>
    have := preIn j (by omega) (hSc j (by omega) hSj) i hp
    rw [hSi] at this; simp at this
  have cgc : ∀ c, cg c = true → c < pre.length ∧ chg c = true := fun c h => by
   rw [hcg] at h
   simp only [Bool.and_eq_true, decide_eq_true_eq] at h
   exact ⟨h.1.1, h.1.2⟩
  have order : ∀ c, cg c = true → c < i → (chg i = true ∨ pre[i].op.looks = true) → S c = true := by
   intro c hc hlt hor
   rcases ok2 i hi c hlt with h | ⟨h, _⟩
   ·exact hprein c h
   ·have := h (cgc c hc).2
    rw [pD i hi] at this
    rcases hor with h | h
    ·rw [this.2] at h; simp at h
    ·rw [this.1] at h; simp at h
  by_cases hc : chg i = true
  ·have hS : ∀ c, c < pre.length → cg c = true → c ≠ i → S c = decide (c < i) := by
    intro c hcl hcc hne
    rcases Nat.lt_or_gt_of_ne hne with hlt | hgt
    ·rw [order c hcc hlt (.inl hc)]; simp [hlt]
    ·rw [behind c hgt hcl]
     ·simp; omega
     ·rcases ok2 c hcl i hgt with h | ⟨h, _⟩
      ·exact h
      ·have := (h hc).2
       rw [(cgc c hcc).2] at this; simp at this
   rw [hpAt S i (by omega) fun c hcl hcc => by
    by_cases hci : c = i
    ·subst hci; rw [hSi]; simp
    ·exact hS c hcl hcc hci]
   rw [hpAt _ (i + 1) (by omega) fun c hcl hcc => by
    by_cases hci : c = i
    ·subst hci; simp
    ·have hb : (c == i) = false := by simp [hci]
     rw [hS c hcl hcc hci, hb, Bool.or_false, decide_eq_decide]; omega]
   exact ht
  ·have hcf : cg i = false := by rw [hcg]; simp [hc]
   rw [eta_add S i hcf]
   by_cases hlk : pre[i].op.looks = true
   ·by_cases hex : ∃ m, m ≤ pre.length ∧ i < pre.length - m ∧ cg (pre.length - m) = true ∧ S (pre.length - m) = true
    ·obtain ⟨m, ⟨_, m1, m2, m3⟩, hmin⟩ := exists_least hex
     obtain ⟨c, hcm⟩ : ∃ c, c = pre.length - m := ⟨_, rfl⟩
     rw [← hcm] at m1 m2 m3
     have hcl := (cgc c m2).1
     have hgr : ∀ c', c < c' → cg c' = true → S c' = false := fun c' hlt hcc => by
      cases hb : S c' with
      | false => rfl
      | true =>
       have hcl' := (cgc c' hcc).1
       have := hmin (pre.length - c') ⟨by omega, by omega, by rw [show pre.length - (pre.length - c') = c' by omega]; exact hcc, by rw [show pre.length - (pre.length - c') = c' by omega]; exact hb⟩
       omega
     have he : eta S = hs (c + 1) := hpAt S (c + 1) (by omega) fun c' hcl' hcc' => by
      rcases Nat.lt_trichotomy c' c with hlt | rfl | hgt
      ·have : S c' = true := by
        rcases ok2 c hcl c' hlt with h | ⟨h, _⟩
        ·exact preIn c (by omega) (hSc c (by omega) m3) c' h
        ·have := (h (cgc c' hcc').2).2
         rw [(cgc c m2).2] at this; simp at this
       rw [this]; simp; omega
      ·rw [m3]; simp
      ·rw [hgr c' hgt hcc']; simp; omega
     have hfree : ee7 pre ((gs.map GO.us).getD c []) i c = true := by
      rcases ok2 c hcl i m1 with h | ⟨_, h⟩
      ·have := behind c m1 hcl h
       rw [m3] at this; simp at this
      ·exact h (cgc c m2).2 (by rw [pD i hi]; exact hlk)
     obtain ⟨g1, g2, g3⟩ := gget c hcl
     have hTc : T c = true := by rw [← hT1 c hcl]; exact sub c (by omega) m3
     have hag := (txr c _ g1 hTc).2.2
     have husc : (gs.map GO.us).getD c [] = (gs[c]'(by omega)).us := by simp [show c < gs.length by omega]
     rw [husc] at hfree
     unfold ee7 at hfree
     rw [pD i hi] at hfree
     split at hfree
     case h_2 => simp at hfree
     rename_i ag mm k d hop hgd hdd
     simp only [Bool.and_eq_true, List.any_eq_true, beq_iff_eq] at hfree
     obtain ⟨⟨u, hu, ⟨⟨⟨rfl, rfl⟩, rfl⟩, rfl⟩⟩, hst⟩ := hfree
     have stable : ∀ p (hp : p < pre.length), i ≤ p → p ≤ c → pre[p].dst ≠ some u.x ∧ (i < p → pre[p].dst ≠ some u.d) := fun p hp h1 h2 => by
      have := List.all_eq_true.1 hst p (List.mem_range.2 hp)
      rw [pD p hp] at this
      simp only [Bool.or_eq_true, Bool.and_eq_true, decide_eq_true_eq, Bool.not_eq_true', beq_eq_false_iff_ne, ne_eq] at this
      rcases this with (h | h) | ⟨h3, h4⟩
      ·omega
      ·omega
      ·refine ⟨h3, fun hlt => ?_⟩
       rcases h4 with h4 | h4
       ·omega
       ·exact h4
     have hld := hag u hu (by rw [← g3]; exact (cgc c m2).2)
     unfold cr6 at hld
     have ek : stS val0 (fun j => decide (j < c + 1) && T j) 0 pre s u.x = σ S u.x := by
      rw [← rd u.x (by simp [EOper.reads, hop, EOp.opds, EOpd.tmp]), txS_eq i (by omega)]
      refine bb4 pre 0 s s (fun p o hp hdp => ?_) rfl
      rw [Nat.zero_add]
      have hpl' := aa3 hp
      have hpo : pre[p] = o := by simpa [hpl'] using hp
      by_cases hpi : p < i
      ·simp [hpi, show p < c + 1 by omega]
      ·by_cases hpc : p ≤ c
       ·have := (stable p hpl' (by omega) hpc).1
        rw [hpo] at this
        exact absurd hdp this
       ·simp [hpi, show ¬ p < c + 1 by omega]
     have ed : stS val0 (fun j => decide (j < c + 1) && T j) 0 pre s u.d = val i := by
      have := bk4 (val := val0) (S := fun j => decide (j < c + 1) && T j) (t := u.d) pre 0 i s pre[i] (by simp [hi]) hdd (by simp [hTi]; omega) (fun p o' hp hp' hSp hd' => by
       have hpl' := aa3 hp'
       have hpo : pre[p] = o' := by simpa [hpl'] using hp'
       simp only [Nat.zero_add, Bool.and_eq_true, decide_eq_true_eq] at hSp
       have := (stable p hpl' (by omega) (by omega)).2 hp
       rw [hpo] at this
       exact absurd hd' this)
      rw [this, Nat.zero_add, hv1 i hi]
     rw [ek, ed] at hld
     rw [he]
     unfold Runs
     rw [hgd]
     simp only [hop, Acts, evOp, ev, hld, Option.map_some]
    ·have he : eta S = hs i := hpAt S i (by omega) fun c hcl hcc => by
      rcases Nat.lt_trichotomy c i with hlt | rfl | hgt
      ·rw [order c hcc hlt (.inr hlk)]; simp [hlt]
      ·rw [hcf] at hcc; simp at hcc
      ·have : S c = false := by
        cases hb : S c with
        | false => rfl
        | true => exact absurd ⟨pre.length - c, by omega, by rw [show pre.length - (pre.length - c) = c by omega]; exact hgt, by rw [show pre.length - (pre.length - c) = c by omega]; exact hcc, by rw [show pre.length - (pre.length - c) = c by omega]; exact hb⟩ hex
       rw [this]; simp; omega
     rw [he]
     rw [hch0 i hi hcf] at ht
     exact ht
   ·exact ht.blind (by simpa using hlk)
 have gD : ∀ i o, pre[i]? = some o → pre.getD i default = o := fun i o ho => by simp [List.getD, ho]
 have hglen : gs.length = pre.length := hpl.symm
 -- all new blocks are cv0
 have turn : ∀ (S : Nat → Bool) (a' : Act) (w' : World), (∀ i, i < pre.length → T i = true) → ba5 (fun s1 H1 => wops P γ Q (al ++ post) s1 H1) Q .normal (stS val0 (fun _ => true) 0 pre s) (hs pre.length) → eta S = hs pre.length →
   (∀ i, i < l1.length → S i = false → i < pre.length) → PG γ n nb φ I H w (eta S) (σ S) al pre.length S a' w' →
   ∃ φ' I' s' s2 H', Evo φ I H w φ' I' H' w' ∧ Rel γ n nb φ' I' s' H' a' w' ∧ wops P γ Q post s2 H' ∧ (∀ t, s' t = s2 t ∨ ∃ i o, pre[i]? = some o ∧ S i = false ∧ o.dst = some t) ∧
    ∀ t, t ∉ af2 al → s' t = σ S t ∧ s2 t = stS val0 (fun _ => true) 0 pre s t := by
  rintro S a' w' hall r2 hee hS ⟨φ', I', β, h1, h2, h3, h4⟩
  rw [hee] at h1 h2
  simp only [hee] at h3
  have hal1 : ∀ j, j < al.length → S (pre.length + j) = true := fun j hj => by
   cases hb : S (pre.length + j) with
   | true => rfl
   | false => have := hS _ (by omega) hb; omega
  obtain ⟨φ2, I2, s', s2, H2, g1, g2, g3, g4, g5⟩ := conv (X := fun t => ∃ i o, pre[i]? = some o ∧ S i = false ∧ o.dst = some t) al k1 φ' (hs pre.length) (σ S) (stS val0 (fun _ => true) 0 pre s) β h1 h2 (fun j d z hj => h3 j d z hj (hal1 _ (aa3 hj))) (fun i j hi hj e => h4 i j hi hj (hal1 _ hi) (hal1 _ hj) e) (fun t ht hX => by
   rw [hσ, hl1, ba9, au8, hvS]
   ·exact bb4 pre 0 s s (fun k o hk hd => by
     rw [Nat.zero_add]
     cases hb : S k with
     | true => rfl
     | false => exact absurd ⟨k, o, hk, hb, hd⟩ hX) rfl
   ·intro k o hk _ hd
    obtain ⟨o', ho', rfl⟩ : ∃ o', al[k]? = some o' ∧ az8 o' = o := by simpa using hk
    exact ht (aq0 ho' (by simpa [az8] using hd))) r2
  refine ⟨φ2, I2, s', s2, H2, g1, g2, g3, fun t => ?_, g5⟩
  by_cases hX : ∃ i o, pre[i]? = some o ∧ S i = false ∧ o.dst = some t
  ·exact .inr hX
  ·exact .inl (g4 t hX)
 have panicC : ∀ {X : Prop}, (∀ c, c < pre.length → T c = false → X) → ((∀ i, i < pre.length → T i = true) → ba5 (fun s1 H1 => wops P γ Q (al ++ post) s1 H1) Q .normal (stS val0 (fun _ => true) 0 pre s) (hs pre.length) → X) → X := fun hp hn => by
  rcases txf with ⟨t1, t2⟩ | ⟨c, g, pv, H2, q1, q2, q3, q4, q5, q6, q7, q8⟩
  ·exact hn (fun i hi => t1 i (by omega)) (by rw [hpl]; exact t2)
  ·exact hp c (by have := aa3 q1; omega) q4
 refine cj7 (fun i hi => (okd i hi).1)
  (fun S a' w' => (∀ k, k < l1.length → S k = true → T' k = true) ∧ (((∀ i, l1.length ≤ i → i < ops.size → S i = false) ∧ PG γ n nb φ I H w (eta S) (σ S) al pre.length S a' w') ∨
   ∃ p, l1.length < p ∧ p ≤ ops.size ∧ (∀ i, l1.length ≤ i → i < ops.size → S i = decide (i < p)) ∧ (∀ i, i < l1.length → S i = false → i < pre.length ∧ isL (pre.length + al.length) post.length pr i = true ∧ (pre.getD i default).op.looks = false ∧ (pre.getD i default).guard = none) ∧
    ∃ φ' I' s' s2 H', Evo φ I H w φ' I' H' w' ∧ Rel γ n nb φ' I' s' H' a' w' ∧ wops P γ Q (post.drop (p - l1.length)) s2 H' ∧ (∀ t, s' t = s2 t ∨ ∃ i o, pre[i]? = some o ∧ S i = false ∧ o.dst = some t) ∧
     (∀ i, i < pre.length → T i = true) ∧ ∀ i o, pre[i]? = some o → S i = false → Runs P γ s' H' o (val0 i) H' ∧ ∀ d, o.dst = some d → s2 d = val0 i))
  ?_ ?_ ?_ ?_
 ·-- what stands outside does not count
  rintro S T2 hST a' w' ⟨hsub, hS⟩
  refine ⟨fun k hk h => hsub k hk ((hST k (by omega)).trans h), ?_⟩
  rcases hS with ⟨h1, h2⟩ | ⟨p, h1, h2, h3, h5, φ', I', s', s2, H', g1, g2, g3, g4, g6, g5⟩
  ·refine .inl ⟨fun i hi hi' => (hST i hi').symm.trans (h1 i hi hi'), ?_⟩
   have e : σ S = σ T2 := by rw [hσ, hσ]; exact bk3 fun k hk => by rw [Nat.zero_add]; exact hST k (by omega)
   have ee : eta S = eta T2 := by
    rw [heta, heta]
    have : ∀ k, k ≤ pre.length → hpS hs cg S k = hpS hs cg T2 k := by
     intro k
     induction k with
     | zero => intro _; rfl
     | succ k ih => intro hk; simp only [hpS, ih (by omega), hST k (by omega)]
    exact this _ (Nat.le_refl _)
   rw [← e, ← ee]
   obtain ⟨φ', I', β, g1, g2, g3, g4⟩ := h2
   have eT : ∀ j, j < al.length → T2 (pre.length + j) = S (pre.length + j) := fun j hj => (hST _ (by omega)).symm
   exact ⟨φ', I', β, g1, g2, fun j d z hj hs => g3 j d z hj ((eT j (aa3 hj)).symm.trans hs), fun i j hi hj s1 s2 e => g4 i j hi hj ((eT i hi).symm.trans s1) ((eT j hj).symm.trans s2) e⟩
  ·refine .inr ⟨p, h1, h2, fun i hi hi' => (hST i hi').symm.trans (h3 i hi hi'), fun i hi hs => h5 i hi ((hST i (by omega)).trans hs), φ', I', s', s2, H', g1, g2, g3, fun t => ?_, g6, fun i o ho hs => g5 i o ho ((hST i (by have := aa3 ho; omega)).trans hs)⟩
   rcases g4 t with h | ⟨i, o, ho, hs, hd⟩
   ·exact .inl h
   ·exact .inr ⟨i, o, ho, (hST i (by have := aa3 ho; omega)).symm.trans hs, hd⟩
 ·intro S hSc i hi hSi hSd a' w' hS0
  obtain ⟨hsub, hS⟩ := hS0
  have hprein := by4 okd S hSc i hi hSd
  have hop : ops[i]? = some ops[i] := by simp [hi]
  have heo : ∀ eo, (pre ++ (al ++ post))[i]? = some eo → ai5 P n own ops ops[i] = some eo := fun eo he => mres i ops[i] eo (by simp [hi]) he
  have hSc1 : ∀ i, i < l1.length → S i = true → ∀ k ∈ (ae0 ops).getD i [], S k = true := fun i hi => hSc i (by omega)
  have subT : ∀ {i}, (i < l1.length → T' i = true) → ∀ k, k < l1.length → (S k || k == i) = true → T' k = true := fun {i} hT k hk h => by
   simp only [Bool.or_eq_true, beq_iff_eq] at h
   rcases h with h | rfl
   ·exact hsub k hk h
   ·exact hT hk
  by_cases hp : i < l1.length
  ·have before : ∀ j (hj : j < i), ag8 (l1[j]'(by omega)) l1[i] = true → S j = true := by
    intro j hj hme
    exact hprein j ((ok1 i hp).2.2 j hj (by rw [l1D j (by omega), l1D i hp]; exact hme))
   rcases hS with hS1 | ⟨p, h1, h2, h3, h5, φ', I', s', s2, H', g1, g2, g3, g4, g6, g5⟩
   ·-- before the rest
    obtain ⟨o1, o2⟩ := slotsEq S hSc1 hsub i hp hSi before
    have hfar : ∀ j, l1.length ≤ j → j < ops.size → (S j || j == i) = false := fun j hj hj' => by
     rw [hS1.1 j hj hj']
     simp; omega
    by_cases hq : i < pre.length
    ·rw [eq1 i hq] at o1 o2
     have heq := heo pre[i] (by rw [List.getElem?_append_left hq]; simp [hq])
     cases hTi : T i with
     | true =>
      refine wpOp_mono (fun a2 w2 hh => ⟨subT (fun _ => by rw [hT1 i hq]; exact hTi), .inl ⟨hfar, hh⟩⟩) (stepG hd hop (by simp [hq]) heq hS1.2 (oneG S hSc1 hsub i hq hTi hSi hprein) o2)
     | false =>
      -- the call that panics
      rcases txf with ⟨t1, _⟩ | ⟨c, g, pv, H2, q1, q2, q3, q4, q5, q6, q7, q8⟩
      ·rw [t1 i (by omega)] at hTi; simp at hTi
      ·have hcl : c < pre.length := by have := aa3 q1; omega
       have hic : i = c := by
        rcases Nat.lt_trichotomy i c with hlt | rfl | hgt
        ·rw [q5 i hlt] at hTi; simp at hTi
        ·rfl
        ·obtain ⟨k, rfl⟩ : ∃ k, i = c + 1 + k := ⟨i - c - 1, by omega⟩
         have hgk : gs[c + 1 + k]? = some (gs[c + 1 + k]'(by omega)) := by simp
         have h1 := (q6 k _ hgk).1
         rw [hTi] at h1
         have h2 := List.all_eq_true.1 (List.all_eq_true.1 k4d c (List.mem_range.2 hcl)) k (List.mem_range.2 (by omega))
         have hbeh : (gs.map GO.beh).getD c [] = g.beh := by simp [q1]
         have hch : (gs.map GO.chg).getD c false = true := by simp [q1, q2]
         rw [hbeh, hch] at h2
         have h3 : g.beh.getD k true = true := by simpa using h1.symm
         rw [h3] at h2
         have h4 : c ∈ pr.getD (c + 1 + k) [] := by simpa using h2
         have h5 := hsub c (by omega) (hprein c h4)
         rw [hT1 c hcl, q4] at h5
         simp at h5
       subst hic
       have hgo : g.o = pre[i] := by
        obtain ⟨g1, g2, _⟩ := gget i hq
        rw [q1] at g1
        rw [g2, Option.some.inj g1]
       have hci : chg i = true := by rw [hchg]; simp [q1, q2]
       have heta' : eta S = hs i := hpAt S i (by omega) fun c' hcl' hcc' => by
        rw [hcg] at hcc'
        simp only [Bool.and_eq_true, decide_eq_true_eq] at hcc'
        rcases Nat.lt_trichotomy c' i with hlt | rfl | hgt
        ·have : S c' = true := by
          rcases ok2 i hq c' hlt with h | ⟨h, _⟩
          ·exact hprein c' h
          ·have := (h hcc'.1.2).2
           rw [hci] at this; simp at this
         rw [this]; simp [hlt]
        ·rw [q4] at hcc'; simp at hcc'
        ·obtain ⟨k, rfl⟩ : ∃ k, c' = i + 1 + k := ⟨c' - i - 1, by omega⟩
         have hgk : gs[i + 1 + k]? = some (gs[i + 1 + k]'(by omega)) := by simp
         have h1 := (q6 k _ hgk).2 hcc'.2
         have h2 := (gget (i + 1 + k) hcl').2.2
         rw [h1] at h2
         rw [h2] at hcc'; simp at hcc'
       obtain ⟨φ', I', β, g1, g2, g3, g4⟩ := hS1.2
       rw [heta'] at g1 g2
       rw [← txS_eq i (by omega)] at q7 q8
       rw [hgo] at q7 q3
       refine de3 (ds := ds) hop heq q3 g1 g2 (q7.congr fun t ht => o1 t (by simp only [EOper.reads, List.mem_append]; exact .inl ht)) ?_
       have hfg : forget ds (σ S) = forget ds (txS i) := by
        funext t
        unfold forget
        by_cases hdt : ds.contains t = true
        ·rw [if_pos hdt, if_pos hdt]
        ·rw [if_neg hdt, if_neg hdt, hσ, htxS]
         have hno : ∀ (k : Nat) (o : EOper), l1[k]? = some o → o.dst ≠ some t := fun k o hk hdo => by
          apply hdt
          rw [hl1] at hk
          by_cases hkp : k < pre.length
          ·rw [List.getElem?_append_left hkp] at hk
           have := List.all_eq_true.1 kd1 t (aq0 hk hdo)
           exact this
          ·rw [List.getElem?_append_right (by omega)] at hk
           obtain ⟨o', ho', rfl⟩ : ∃ o', al[k - pre.length]? = some o' ∧ az8 o' = o := by simpa using hk
           have := List.all_eq_true.1 kd2 t (aq0 ho' (by simpa [az8] using hdo))
           exact this
         rw [au8 l1 0 s fun k o hk _ => hno k o hk, au8 l1 0 s fun k o hk _ => hno k o hk]
       rw [hfg]
       exact q8
    ·obtain ⟨j0, rfl⟩ : ∃ j0, i = pre.length + j0 := ⟨i - pre.length, by omega⟩
     have hj0 : j0 < al.length := by omega
     obtain ⟨d0, z0, hz0, hz1, hz2⟩ := bt1 (List.all_eq_true.1 k1 al[j0] (List.getElem_mem hj0))
     have hal0 : al[j0]? = some { dst := some d0, op := .box (.c z0), guard := none } := by rw [← hz0]; simp [hj0]
     have e1 : l1[pre.length + j0] = az8 al[j0] := by have := get2 j0 hj0; simpa [hp] using this
     rw [e1, hv2 _ (by omega), hz0] at o2
     have hcf : cg (pre.length + j0) = false := by rw [hcg]; simp; intro h; omega
     rw [← eta_add S _ hcf] at hS1
     refine wpOp_mono (fun a2 w2 hh => ⟨subT (fun _ => hT2 _ (by omega)), .inl ⟨hfar, hh⟩⟩) (dl4 k1 k2 hz1 hz2 hop hal0 (heo _ ?_) hS1.2 o2)
     rw [List.getElem?_append_right (by omega), List.getElem?_append_left (by omega)]
     rw [← hal0]
     congr 1
     omega
   ·-- a late one
    obtain ⟨hq, hL, hlk, hgn⟩ := h5 i hp hSi
    have hpi : pre[i]? = some pre[i] := by simp [hq]
    rw [gD i _ hpi] at hlk hgn
    obtain ⟨c1, c2⟩ := g5 i pre[i] hpi hSi
    have mt : ∀ j o, pre[j]? = some o → S j = false → j ≠ i → ag8 pre[i] o = false := fun j o ho hs hne => by
     have := apartL i j hq (aa3 ho) (Ne.symm hne) hL (h5 j (by have := aa3 ho; omega) hs).2.1
     rwa [gD i _ hpi, gD j o ho] at this
    refine bi4 hop (heo _ (by rw [List.getElem?_append_left hq]; exact hpi)) g1 g2 c1 fun φ2 I2 a2 w2 v2 e1 e2 e3 => ⟨subT (fun _ => by rw [hT1 i hq]; exact g6 i hq), .inr ⟨p, h1, h2, fun j hj hj' => ?_, fun j hj hs => ?_, φ2, I2, _, s2, H', g1.trans e1, e2, g3, fun t => ?_, g6, fun j o ho hs => ?_⟩⟩
    ·show (S j || j == i) = decide (j < p)
     rw [h3 j hj hj', show (j == i) = false by simp; omega, Bool.or_false]
    ·exact h5 j hj (by simp only [Bool.or_eq_false_iff] at hs; exact hs.1)
    ·by_cases ht : pre[i].dst = some t
     ·left
      rw [c2 t ht, ht]
      simp [putA, upd]
     ·rw [an8 ht]
      rcases g4 t with h | ⟨j, o, ho, hs, hdt⟩
      ·exact .inl h
      ·refine .inr ⟨j, o, ho, ?_, hdt⟩
       show (S j || j == i) = false
       rw [hs, Bool.false_or]
       simp only [beq_eq_false_iff_ne, ne_eq]
       rintro rfl
       rw [hpi] at ho
       obtain rfl := Option.some.inj ho
       exact ht hdt
    ·simp only [Bool.or_eq_false_iff, beq_eq_false_iff_ne, ne_eq] at hs
     obtain ⟨q1, q2⟩ := g5 j o ho hs.1
     have hm := mt j o ho hs.1 hs.2
     refine ⟨q1.congr fun t ht => ?_, q2⟩
     refine (an8 fun e => ?_).symm
     simp [ag8, e, ht] at hm
  ·-- the rest
   have hge : l1.length ≤ i := by omega
   have late : ∀ j, j < i → S j = false → j < pre.length ∧ j ∉ pr.getD i [] ∧ bv3 (pre.getD j default) (post.getD (i - l1.length) default) = true := fun j hj hs => by
    rcases okp i hge hi j hj with h | h
    ·rw [hprein j h] at hs; simp at hs
    ·exact h
   have hlt : ∀ j, l1.length ≤ j → j < i → S j = true := fun j hj hji => by
    cases hb : S j with
    | true => rfl
    | false => have := (late j hji hb).1; omega
   have hS2 : (∀ j, l1.length ≤ j → j < ops.size → S j = decide (j < i)) ∧ ∃ φ' I' s' s2 H', Evo φ I H w φ' I' H' w' ∧ Rel γ n nb φ' I' s' H' a' w' ∧ wops P γ Q (post.drop (i - l1.length)) s2 H' ∧ (∀ t, s' t = s2 t ∨ ∃ i o, pre[i]? = some o ∧ S i = false ∧ o.dst = some t) ∧
     (∀ i, i < pre.length → T i = true) ∧ ∀ i o, pre[i]? = some o → S i = false → Runs P γ s' H' o (val0 i) H' ∧ ∀ d, o.dst = some d → s2 d = val0 i := by
    rcases hS with ⟨h1, h2⟩ | ⟨p, h1, h2, h3, h5, h4⟩
    ·have hi1 : i = l1.length := by
      rcases Nat.lt_or_ge l1.length i with hlt' | hge'
      ·have := hlt _ (Nat.le_refl _) hlt'
       rw [h1 _ (Nat.le_refl _) (by omega)] at this
       simp at this
      ·omega
     refine ⟨fun j hj hj' => ?_, ?_⟩
     ·rw [h1 j hj hj']; simp; omega
     ·have hTT : ∀ c, c < pre.length → T c = false → False := fun c hcl hTc => by
       cases hb : S c with
       | true => have := hsub c (by omega) hb; rw [hT1 c hcl, hTc] at this; simp at this
       | false =>
        rcases txf with ⟨t1, _⟩ | ⟨c2, g, pv, H2, q1, q2, q3, q4, q5, q6, q7, q8⟩
        ·rw [t1 c (by omega)] at hTc; simp at hTc
        ·have hcl2 : c2 < pre.length := by have := aa3 q1; omega
         cases hb2 : S c2 with
         | true => have := hsub c2 (by omega) hb2; rw [hT1 c2 hcl2, q4] at this; simp at this
         | false =>
          have hlp := (late c2 (by omega) hb2).2.2
          have hch : chg c2 = true := by rw [hchg]; simp [q1, q2]
          have := looks_chg c2 hcl2 hch
          simp only [bv3, Bool.and_eq_true, Bool.not_eq_true', pD c2 hcl2] at hlp
          rw [this] at hlp
          simp at hlp
      obtain ⟨hall, r2⟩ : (∀ i, i < pre.length → T i = true) ∧ ba5 (fun s1 H1 => wops P γ Q (al ++ post) s1 H1) Q .normal (stS val0 (fun _ => true) 0 pre s) (hs pre.length) := panicC (fun c h1 h2 => (hTT c h1 h2).elim) fun h1 h2 => ⟨h1, h2⟩
      have hee : eta S = hs pre.length := hpAt S pre.length (Nat.le_refl _) fun c hcl hcc => by
       cases hb : S c with
       | true => simp [hcl]
       | false =>
        have hlp := (late c (by omega) hb).2.2
        rw [hcg] at hcc
        simp only [Bool.and_eq_true, decide_eq_true_eq] at hcc
        have := looks_chg c hcl hcc.1.2
        simp only [bv3, Bool.and_eq_true, Bool.not_eq_true', pD c hcl] at hlp
        rw [this] at hlp
        simp at hlp
      obtain ⟨φ', I', s', s2, H', g1, g2, g3, g4, g5⟩ := turn S a' w' hall r2 hee (fun j hj hs => (late j (by omega) hs).1) h2
      refine ⟨φ', I', s', s2, H', g1, g2, by rw [hi1, Nat.sub_self, List.drop_zero]; exact g3, g4, hall, fun j o ho hs => ?_⟩
      have hjl := aa3 ho
      have hjl1 : j < l1.length := by omega
      obtain ⟨_, hjn, hjp⟩ := late j (by omega) hs
      have hjL := isL_of i hge hi j hjn
      have eqp : ∀ k o', pre[k]? = some o' → ∀ hk : k < l1.length, l1[k] = o' := fun k o' hk' hk => by
       have h1 := get1 k (aa3 hk')
       have h2 : pre[k]'(aa3 hk') = o' := by simpa [aa3 hk'] using hk'
       rw [h2] at h1
       simpa [hk] using h1
      have e1 : l1[j] = o := eqp j o ho hjl1
      have preIn1 : ∀ k, k < l1.length → S k = true → ∀ j' ∈ pr.getD k [], S j' = true := fun k hk hsk => by4 okd S hSc k (by omega) (hSc k (by omega) hsk)
      have l1D : ∀ k (hk : k < l1.length), l1.getD k default = l1[k] := fun k hk => by simp [hk]
      have undone : ∀ k, k < l1.length → k ≠ j → S k = false → ∀ o', pre[k]? = some o' → ag8 (pre.getD k default) o = false ∧ ag8 o (pre.getD k default) = false := fun k hk hne hsk o' ho' => by
       have hkL := isL_of i hge hi k (late k (by omega) hsk).2.1
       have m1 := apartL k j (aa3 ho') hjl hne hkL hjL
       have m2 := apartL j k hjl (aa3 ho') (Ne.symm hne) hjL hkL
       rw [gD j o ho] at m1 m2
       exact ⟨m1, m2⟩
      have rd := (slotsEq S hSc1 hsub j hjl1 hs (fun k hk hme => by
       cases hb : S k with
       | true => rfl
       | false =>
        have hkp := (late k (by omega) hb).1
        have hko : pre[k]? = some pre[k] := by simp [hkp]
        have := (undone k (by omega) (by omega) hb _ hko).1
        rw [gD k _ hko] at this
        have e2 : l1[k]'(by omega) = pre[k] := eqp k _ hko (by omega)
        rw [e2, e1, this] at hme
        simp at hme)).1
      rw [e1] at rd
      have q1 := (textRun j hjl (hall j hjl))
      rw [show pre[j] = o by have h := ho; simp [hjl] at h; exact h, hv1 j hjl] at q1
      have q1 := q1.congr rd
      simp only [bv3, Bool.and_eq_true, Bool.not_eq_true', gD j o ho] at hjp
      have noal : ∀ t, (t ∈ o.reads ∨ o.dst = some t) → t ∉ af2 al := fun t ht hta => by
       obtain ⟨x, hx, hxd⟩ := List.mem_filterMap.1 hta
       obtain ⟨k, hk, hkx⟩ := List.getElem_of_mem hx
       have e3 : l1[pre.length + k]'(by omega) = az8 al[k] := by have := get2 k hk; simpa [show pre.length + k < l1.length by omega] using this
       have hbd : (az8 al[k]).dst = some t := by simp only [az8, hkx]; exact hxd
       have hm : ag8 l1[j] (l1[pre.length + k]'(by omega)) = true := by
        rw [e1, e3]
        rcases ht with ht | ht
        ·simp [ag8, hbd, ht]
        ·simp [ag8, hbd, ht]
       have hmem := (ok1 (pre.length + k) (by omega)).2.2 j (by omega) (by rw [l1D j hjl1, l1D _ (by omega)]; exact hm)
       have hdone : S (pre.length + k) = true := by
        cases hb : S (pre.length + k) with
        | true => rfl
        | false => have := (late _ (by omega) hb).1; omega
       have := preIn1 _ (by omega) hdone j hmem
       rw [hs] at this; simp at this
      have rb := (q1.blind (H2 := H') (by simpa using hjp.1.1.1))
      refine ⟨rb.congr fun t ht => ?_, fun d hdo => ?_⟩
      ·rw [(g5 t (noal t (.inl ht))).1]
      ·rw [(g5 d (noal d (.inr hdo))).2]
       have := bk4 (val := val0) (S := fun _ => true) (t := d) pre 0 j s o ho hdo rfl (fun k o' hk hk' _ hd' => by
        have hkl := aa3 hk'
        have e4 : l1[k]'(by omega) = o' := eqp k o' hk' (by omega)
        have hm : ag8 l1[j] (l1[k]'(by omega)) = true := by rw [e1, e4]; simp [ag8, hdo, hd']
        have hmem := (ok1 k (by omega)).2.2 j hk (by rw [l1D j hjl1, l1D k (by omega)]; exact hm)
        cases hb : S k with
        | true =>
         have := preIn1 k (by omega) hb j hmem
         rw [hs] at this; simp at this
        | false =>
         have := (undone k (by omega) (by omega) hb o' hk').2
         rw [gD k o' hk'] at this
         rw [e1, e4, this] at hm
         simp at hm)
       rw [Nat.zero_add] at this
       exact this
    ·have hpi : p = i := by
      have e1 := h3 i hge hi
      rw [hSi] at e1
      have e2 : ¬ i < p := by simpa using e1.symm
      rcases Nat.lt_or_ge p i with hlt' | hge'
      ·have := hlt p (by omega) hlt'
       rw [h3 p (by omega) (by omega)] at this
       simp at this
      ·omega
     subst hpi
     exact ⟨h3, h4⟩
   obtain ⟨hSi', φ', I', s', s2, H', g1, g2, g3, g4, g6, g5⟩ := hS2
   have hj : i - l1.length < post.length := by omega
   have hpD : post.getD (i - l1.length) default = post[i - l1.length] := by simp [hj]
   rw [List.drop_eq_getElem_cons hj] at g3
   have hgd := List.all_eq_true.1 k5 post[i - l1.length] (List.getElem_mem hj)
   have heo' := heo post[i - l1.length] (by
    rw [List.getElem?_append_right (by omega), List.getElem?_append_right (by omega)]
    rw [show i - pre.length - al.length = i - l1.length by omega]
    simp [hj])
   obtain ⟨⟨b, hres⟩, hdst, hdn, hg⟩ := ah7 heo'
   have hgn : post[i - l1.length].guard = none := by simpa using hgd
   have hgo : ops[i].guard = none := by
    cases ho : ops[i].guard with
    | none => rfl
    | some p =>
     obtain ⟨j, bb⟩ := p
     rw [ho] at hg
     obtain ⟨d, _, _, hg⟩ := hg
     rw [hgn] at hg
     simp at hg
   simp only [wops, hgn] at g3
   -- the late ones are not met
   have apart' : ∀ j o, pre[j]? = some o → S j = false → o.op.looks = false ∧ o.guard = none ∧ post[i - l1.length].op.plain = true ∧ ag8 o post[i - l1.length] = false ∧ isL (pre.length + al.length) post.length pr j = true := fun j o ho hs => by
    obtain ⟨_, q2, q3⟩ := late j (by have := aa3 ho; omega) hs
    rw [hpD, gD j o ho] at q3
    simp only [bv3, Bool.and_eq_true, Bool.not_eq_true', Option.isNone_iff_eq_none] at q3
    exact ⟨q3.1.1.1, q3.1.1.2, q3.1.2, q3.2, isL_of i hge hi j q2⟩
   have g3' : wop P γ (fun v H' => Q (.panic v) s' H') (ev γ s') H' post[i - l1.length].op fun v H2 => wops P γ Q (post.drop (i - l1.length + 1)) (putA s2 post[i - l1.length].dst v) H2 := by
    by_cases hu : ∃ j o, pre[j]? = some o ∧ S j = false
    ·obtain ⟨j, o, ho, hs⟩ := hu
     obtain ⟨v, H2, r1, r2⟩ := bp3 (apart' j o ho hs).2.2.1 g3
     refine cc9 ?_ r2
     have hp := (apart' j o ho hs).2.2.1
     have : Acts P γ s' H' post[i - l1.length].op v H2 := Acts.congr (s := s2) (fun t ht => by
      rcases g4 t with h | ⟨j', o', ho', hs', hd'⟩
      ·exact h.symm
      ·have := (apart' j' o' ho' hs').2.2.2.1
       simp [ag8, hd', EOper.reads, ht] at this) (bt8 hp r1)
     exact ce1 hp this
    ·have : s' = s2 := funext fun t => by
      rcases g4 t with h | ⟨j, o, ho, hs, _⟩
      ·exact h
      ·exact absurd ⟨j, o, ho, hs⟩ hu
     rw [this]
     exact g3
   unfold wpOp
   rw [hop]
   simp only
   rw [if_pos (by simp [Region.wanted, hgo])]
   refine .inl (bl2 (fun e a2 w2 hp => Post.trans g1 hp) (Oper.wp_mono (fun a2 w2 hh => ?_) (bk2 (Q := Q) g2 hres hdn g3')))
   obtain ⟨φ2, I2, H2, v, e1, e2, e3⟩ := hh
   rw [← hdst] at e2
   refine ⟨subT (fun h => by omega), .inr ⟨i + 1, by omega, by omega, fun j hj hj' => ?_, fun j hj hs => ?_, φ2, I2, _, putA s2 post[i - l1.length].dst v, H2, g1.trans e1, e2, ?_, fun t => ?_, g6, fun j o ho hs => ?_⟩⟩
   ·rw [hSi' j hj hj']
    by_cases hji : j = i
    ·subst hji; simp
    ·have : (j == i) = false := by simp [hji]
     rw [this, Bool.or_false, decide_eq_decide]
     omega
   ·simp only [Bool.or_eq_false_iff] at hs
    have hjp := (late j (by omega) hs.1).1
    have ho : pre[j]? = some pre[j] := by simp [hjp]
    obtain ⟨q1, q2, _, _, q5⟩ := apart' j _ ho hs.1
    rw [gD j _ ho]
    exact ⟨hjp, q5, q1, q2⟩
   ·rw [show i + 1 - l1.length = i - l1.length + 1 by omega]
    exact e3
   ·by_cases ht : post[i - l1.length].dst = some t
    ·left; rw [ht]; simp [putA, upd]
    ·rw [an8 ht, an8 ht]
     rcases g4 t with h | ⟨j, o, ho, hs, hd'⟩
     ·exact .inl h
     ·refine .inr ⟨j, o, ho, ?_, hd'⟩
      have := aa3 ho
      show (S j || j == i) = false
      rw [hs, Bool.false_or]
      simp; omega
   ·simp only [Bool.or_eq_false_iff] at hs
    obtain ⟨q1, q2⟩ := g5 j o ho hs.1
    obtain ⟨l1', l2', _, hm, _⟩ := apart' j o ho hs.1
    refine ⟨(q1.blind (H2 := H2) l1').congr fun t ht => (an8 fun e => ?_).symm, fun d hdo => ?_⟩
    ·have hm2 := hm
     simp [ag8, e, ht] at hm2
    ·rw [an8 fun e => ?_]
     ·exact q2 d hdo
     ·simp [ag8, e, hdo] at hm
 ·intro S hS a' w' hh
  have : ∃ φ' I' s' H', Evo φ I H w φ' I' H' w' ∧ Rel γ n nb φ' I' s' H' a' w' ∧ Q .normal s' H' := by
   rcases hh.2 with ⟨h1, h2⟩ | ⟨p, h1, h2, h3, h5, φ', I', s', s2, H', g1, g2, g3, g4, g6, g5⟩
   ·have hpost : post = [] := by
     rcases Nat.lt_or_ge l1.length ops.size with hlt | hge
     ·have := h1 _ (Nat.le_refl _) hlt
      rw [hS _ hlt] at this
      simp at this
     ·exact List.eq_nil_of_length_eq_zero (by omega)
    have hTT : ∀ c, c < pre.length → T c = false → False := fun c hcl hTc => by have := hh.1 c (by omega) (hS c (by omega)); rw [hT1 c hcl, hTc] at this; simp at this
    obtain ⟨hall, r2⟩ : (∀ i, i < pre.length → T i = true) ∧ ba5 (fun s1 H1 => wops P γ Q (al ++ post) s1 H1) Q .normal (stS val0 (fun _ => true) 0 pre s) (hs pre.length) := panicC (fun c h1 h2 => (hTT c h1 h2).elim) fun h1 h2 => ⟨h1, h2⟩
    have hee : eta S = hs pre.length := hpAt S pre.length (Nat.le_refl _) fun c hcl _ => by rw [hS c (by omega)]; simp [hcl]
    obtain ⟨φ', I', s', s2, H', g1, g2, g3, g4, _⟩ := turn S a' w' hall r2 hee (fun i hi hs => by rw [hS i (by omega)] at hs; simp at hs) h2
    have : s' = s2 := funext fun t => by
     rcases g4 t with h | ⟨j, o, ho, hs, _⟩
     ·exact h
     ·rw [hS j (by have := aa3 ho; omega)] at hs; simp at hs
    subst this
    rw [hpost] at g3
    exact ⟨φ', I', s', H', g1, g2, g3⟩
   ·have hp : p = ops.size := by
     rcases Nat.lt_or_ge p ops.size with hlt | hge
     ·have := h3 p (by omega) hlt
      rw [hS p hlt] at this
      simp at this
     ·omega
    have : s' = s2 := funext fun t => by
     rcases g4 t with h | ⟨j, o, ho, hs, _⟩
     ·exact h
     ·rw [hS j (by have := aa3 ho; omega)] at hs; simp at hs
    subst this
    rw [hp, show ops.size - l1.length = post.length by omega, List.drop_length] at g3
    exact ⟨φ', I', s', H', g1, g2, g3⟩
  obtain ⟨φ', I', s', H', g1, g2, g3⟩ := this
  exact ⟨φ', I', s', H', .normal, g1, g2, .normal, g3⟩
 ·have e0 : eta (fun _ => false) = H := by rw [hpAt _ 0 (Nat.zero_le _) fun c _ _ => by simp]; exact txt.start
  refine ⟨fun k _ h => by simp at h, .inl ⟨fun _ _ _ => rfl, φ, I, fun _ => 0, ?_, ?_, fun j d z _ hs => by simp at hs, fun i j _ _ hs => by simp at hs⟩⟩
  ·rw [e0]; exact Evo.drew
  ·rw [e0, hσ, ay4 fun _ _ => rfl]
   exact hR.drew
end
end Abs
