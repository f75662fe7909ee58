/- A part. -/
import Derived.Test.YtddgppmcbjjliaaGreatDoorDtA
set_option linter.all false
namespace Abs
open Go
set_option maxRecDepth 20000
def nmT (L : List Bool) (Q : List Int) (z : Int) : Int := if seesP L z = true then (Q.idxOf z : Int) else -1
theorem nmT_app {L : List Bool} {q q' : List Int} {z : Int} (h : seesP L z = true → z ∈ q) : nmT L (q ++ q') z = nmT L q z := by
  unfold nmT
  split
  · rename_i hs
    rw [List.idxOf_append, if_pos (h hs)]
  · rfl
theorem nmT_map {L : List Bool} {q q' l : List Int} (h : ∀ z ∈ l, seesP L z = true → z ∈ q) : l.map (nmT L (q ++ q')) = l.map (nmT L q) :=
  List.map_congr_left fun z hz => nmT_app (h z hz)
theorem foldT (L : List Bool) : ∀ (l q acc : List Int), ∃ q', (l.foldl (stepT L) (q, acc)).1 = q ++ q' ∧ (l.foldl (stepT L) (q, acc)).2 = acc ++ l.map (nmT L (q ++ q')) ∧
    (∀ z ∈ l, seesP L z = true → z ∈ q ++ q') ∧ ∀ y ∈ q', seesP L y = true
  | [], q, acc => ⟨[], by simp, by simp, by simp, by simp⟩
  | z :: l, q, acc => by
    rw [List.foldl_cons]
    by_cases hs : seesP L z = true
    · by_cases hz : z ∈ q
      · have e : stepT L (q, acc) z = (q, acc ++ [(q.idxOf z : Int)]) := by unfold stepT; rw [if_pos hs]; simp only [if_pos hz]
        rw [e]
        obtain ⟨q', h1, h2, h3, h4⟩ := foldT L l q (acc ++ [(q.idxOf z : Int)])
        refine ⟨q', h1, ?_, fun y hy hy' => ?_, h4⟩
        · rw [h2, List.map_cons, nmT_app (fun _ => hz)]
          unfold nmT
          rw [if_pos hs]
          simp
        · rcases List.mem_cons.1 hy with rfl | hy
          · exact List.mem_append_left _ hz
          · exact h3 y hy hy'
      · have e : stepT L (q, acc) z = (q ++ [z], acc ++ [(q.idxOf z : Int)]) := by unfold stepT; rw [if_pos hs]; simp only [if_neg hz]
        rw [e]
        obtain ⟨q', h1, h2, h3, h4⟩ := foldT L l (q ++ [z]) (acc ++ [(q.idxOf z : Int)])
        have hi : (q ++ [z]).idxOf z = q.idxOf z := by
          rw [List.idxOf_append, if_neg hz]
          have := List.idxOf_eq_length hz
          simp [this]
        refine ⟨z :: q', by rw [h1]; simp, ?_, fun y hy hy' => ?_, fun y hy => ?_⟩
        · rw [h2, List.map_cons, show q ++ z :: q' = (q ++ [z]) ++ q' by simp, nmT_app (fun _ => by simp)]
          rw [show nmT L (q ++ [z]) z = (q.idxOf z : Int) by unfold nmT; rw [if_pos hs, hi]]
          simp
        · rw [show q ++ z :: q' = (q ++ [z]) ++ q' by simp]
          rcases List.mem_cons.1 hy with rfl | hy
          · simp
          · exact h3 y hy hy'
        · rcases List.mem_cons.1 hy with rfl | hy
          · exact hs
          · exact h4 y hy
    · have e : stepT L (q, acc) z = (q, acc ++ [-1]) := by unfold stepT; rw [if_neg hs]
      rw [e]
      obtain ⟨q', h1, h2, h3, h4⟩ := foldT L l q (acc ++ [-1])
      refine ⟨q', h1, ?_, fun y hy hy' => ?_, h4⟩
      · rw [h2, List.map_cons, show nmT L (q ++ q') z = -1 by unfold nmT; rw [if_neg hs]]
        simp
      · rcases List.mem_cons.1 hy with rfl | hy
        · exact absurd hy' hs
        · exact h3 y hy hy'
structure JT (d : DF) (i : Nat) (b : BS) : Prop where
  live : ∀ x ∈ b.q, seesP d.liveL x = true
  z0 : b.q[0]? = some 0
  row : ∀ (j : Nat) (x : Int), j < i → b.q[j]? = some x → ∃ l, d.rows[x.toNat]? = some l ∧ b.rows[j]? = some (l.map (nmT d.liveL b.q)) ∧ ∀ z ∈ l, seesP d.liveL z = true → z ∈ b.q
  tag : ∀ (j : Nat) (x : Int), j < i → b.q[j]? = some x → ∃ t, d.tags[x.toNat]? = some t ∧ b.tags[j]? = some t
theorem JT.zero {d : DF} (h : d.liveL[0]? = some true) : JT d 0 (d.bfs 0) := by
  refine ⟨fun x hx => ?_, rfl, fun j x hj => by omega, fun j x hj => by omega⟩
  simp only [DF.bfs, List.mem_cons, List.not_mem_nil, or_false] at hx
  subst hx
  unfold seesP
  simp [List.getD_eq_getElem?_getD, h]
theorem JT.next {d : DF} (g : d.Good) {i : Nat} (hB : BI d i) (h : JT d i (d.bfs i)) {x : Int} (hx : (d.bfs i).q[i]? = some x) : JT d (i + 1) (d.bfs (i + 1)) := by
  have hxr := hB.qi.rng x (List.mem_of_getElem? hx)
  obtain ⟨l, hl⟩ := get_some (l := d.rows) (i := x.toNat) (by omega)
  obtain ⟨t, ht⟩ := get_some (l := d.tags) (i := x.toNat) (by rw [g.tl]; omega)
  have el : d.rows.getD x.toNat [] = l := by simp [List.getD_eq_getElem?_getD, hl]
  have et : d.tags.getD x.toNat 0 = t := by simp [List.getD_eq_getElem?_getD, ht]
  rw [bfs_next hx, el, et]
  obtain ⟨q', h1, h2, h3, h4⟩ := foldT d.liveL l (d.bfs i).q []
  have e1 : (rowT d.liveL (d.bfs i).q l).1 = (d.bfs i).q ++ q' := h1
  have e2 : (rowT d.liveL (d.bfs i).q l).2 = l.map (nmT d.liveL ((d.bfs i).q ++ q')) := by rw [show (rowT d.liveL (d.bfs i).q l).2 = _ from h2]; simp
  rw [e1, e2]
  have hiq := (List.getElem?_eq_some_iff.1 hx).1
  refine ⟨fun y hy => ?_, ?_, fun j y hj hy => ?_, fun j y hj hy => ?_⟩
  · rcases List.mem_append.1 hy with hy | hy
    · exact h.live y hy
    · exact h4 y hy
  · simp only
    rw [List.getElem?_append_left (by omega)]
    exact h.z0
  · simp only at hy ⊢
    rw [List.getElem?_append_left (by omega)] at hy
    by_cases hji : j < i
    · obtain ⟨l', k1, k2, k3⟩ := h.row j y hji hy
      refine ⟨l', k1, ?_, fun z hz hz' => List.mem_append_left _ (k3 z hz hz')⟩
      rw [List.getElem?_append_left (by rw [hB.rl]; exact hji), nmT_map k3]
      exact k2
    · have : j = i := by omega
      subst this
      rw [hx] at hy
      obtain rfl := Option.some.inj hy
      refine ⟨l, hl, ?_, h3⟩
      rw [List.getElem?_append_right (by rw [hB.rl]; exact Nat.le_refl _), hB.rl, Nat.sub_self]
      rfl
  · simp only at hy ⊢
    rw [List.getElem?_append_left (by omega)] at hy
    by_cases hji : j < i
    · obtain ⟨t', k1, k2⟩ := h.tag j y hji hy
      exact ⟨t', k1, by rw [List.getElem?_append_left (by rw [hB.tl]; exact hji)]; exact k2⟩
    · have : j = i := by omega
      subst this
      rw [hx] at hy
      obtain rfl := Option.some.inj hy
      refine ⟨t, ht, ?_⟩
      rw [List.getElem?_append_right (by rw [hB.tl]; exact Nat.le_refl _), hB.tl, Nat.sub_self]
      rfl
theorem JT.all {d : DF} (g : d.Good) (h0 : d.liveL[0]? = some true) : ∃ i, i = (d.bfs i).q.length ∧ BI d i ∧ JT d i (d.bfs i) ∧ d.bfs d.rows.length = d.bfs i := by
  have hN : 0 < d.rows.length := by
    have := (List.getElem?_eq_some_iff.1 h0).1
    rwa [liveL_len] at this
  have key : ∀ (k i : Nat), d.rows.length - i ≤ k → BI d i → JT d i (d.bfs i) → ∃ i, i = (d.bfs i).q.length ∧ BI d i ∧ JT d i (d.bfs i) := by
    intro k
    induction k with
    | zero =>
      intro i hi hB hJ
      have := hB.qi.le
      have := hB.le
      exact ⟨i, by omega, hB, hJ⟩
    | succ k ih =>
      intro i hi hB hJ
      by_cases e : i = (d.bfs i).q.length
      · exact ⟨i, e, hB, hJ⟩
      · have := hB.le
        obtain ⟨x, hx⟩ := get_some (l := (d.bfs i).q) (i := i) (by omega)
        have hl := hB.qi.le
        exact ih (i + 1) (by omega) (hB.next g hx) (hJ.next g hB hx)
  obtain ⟨i, h1, h2, h3⟩ := key _ 0 (Nat.le_refl _) (BI.zero hN) (JT.zero h0)
  exact ⟨i, h1, h2, h3, h2.last h1⟩
structure TrOf (d T : DF) (Q : List Int) : Prop where
  of : T.of = d.of
  n : T.n = d.n
  qi : QI d.rows.length Q
  live : ∀ x ∈ Q, seesP d.liveL x = true
  z0 : Q[0]? = some 0
  rl : T.rows.length = Q.length
  gl : T.tags.length = Q.length
  row : ∀ (j : Nat) (x : Int), Q[j]? = some x → ∃ l, d.rows[x.toNat]? = some l ∧ T.rows[j]? = some (l.map (nmT d.liveL Q)) ∧ ∀ z ∈ l, seesP d.liveL z = true → z ∈ Q
  tag : ∀ (j : Nat) (x : Int), Q[j]? = some x → ∃ t, d.tags[x.toNat]? = some t ∧ T.tags[j]? = some t
theorem trimD_of {d : DF} (g : d.Good) (h0 : d.liveL[0]? = some true) : TrOf d (d.trimD g.le) (d.bfs d.rows.length).q := by
  obtain ⟨i, h1, h2, h3, h4⟩ := JT.all g h0
  have e1 : (d.trimD g.le).rows = (d.bfs d.rows.length).rows := by unfold DF.trimD; rw [if_pos h0]
  have e2 : (d.trimD g.le).tags = (d.bfs d.rows.length).tags := by unfold DF.trimD; rw [if_pos h0]
  have e3 : (d.trimD g.le).of = d.of := by unfold DF.trimD; split <;> rfl
  have e4 : (d.trimD g.le).n = d.n := by unfold DF.trimD; split <;> rfl
  rw [← h4] at h3
  have hq : (d.bfs d.rows.length).q.length = i := by rw [h4]; exact h1.symm
  refine ⟨e3, e4, by rw [h4]; exact h2.qi, h3.live, h3.z0, by rw [e1, hq, h4]; exact h2.rl, by rw [e2, hq, h4]; exact h2.tl, fun j x hx => ?_, fun j x hx => ?_⟩
  · rw [e1]; exact h3.row j x (by have := (List.getElem?_eq_some_iff.1 hx).1; omega) hx
  · rw [e2]; exact h3.tag j x (by have := (List.getElem?_eq_some_iff.1 hx).1; omega) hx
theorem trimD_not {d : DF} (h : d.rows.length ≤ 600) (h0 : ¬d.liveL[0]? = some true) : (d.trimD h).rows = [] ∧ (d.trimD h).tags = [] ∧ (d.trimD h).of = d.of ∧ (d.trimD h).n = d.n := by
  unfold DF.trimD
  rw [if_neg h0]
  exact ⟨rfl, rfl, rfl, rfl⟩
/-! ### Steps and tags -/
theorem sees_iff {d : DF} {x : Int} (h : 0 ≤ x ∧ x < d.rows.length) : seesP d.liveL x = true ↔ d.Lv x.toNat := by
  unfold seesP
  rw [decide_eq_true h.1, Bool.true_and, List.getD_eq_getElem?_getD]
  unfold DF.liveL
  rw [List.getElem?_map, List.getElem?_range (by omega)]
  simp
theorem dead_step {d : DF} (g : d.Good) {x : Int} (hx : seesP d.liveL x = false) {b : Nat} (hb : b < 256) : seesP d.liveL (d.stepF x b) = false := by
  cases hs : seesP d.liveL (d.stepF x b) with
  | false => rfl
  | true =>
    exfalso
    have hr := seesP_live g hs
    unfold DF.stepF at hs hr
    split at hs
    case isFalse => rw [if_neg (by assumption)] at hr; omega
    rename_i hk
    rw [if_pos hk] at hr
    have hk2 : 0 ≤ x ∧ x < d.rows.length := by omega
    obtain ⟨l, hl⟩ := get_some (l := d.rows) (i := x.toNat) (by omega)
    obtain ⟨v, hv⟩ := get_some (g.wide l (List.mem_of_getElem? hl) b hb)
    have e : d.nxt x b = v := by unfold DF.nxt; simp [List.getD_eq_getElem?_getD, hl, hv]
    rw [e] at hs hr
    have := (sees_iff (d := d) (x := v) (by omega)).1 hs
    have hx2 := (sees_iff (d := d) hk2).2 (.step hl (List.mem_of_getElem? hv) hr.1 this)
    rw [hx] at hx2
    simp at hx2
theorem live_step {d T : DF} {Q : List Int} (g : d.Good) (h : TrOf d T Q) {j : Nat} {x : Int} (hx : Q[j]? = some x) {b : Nat} (hb : b < 256) :
    T.stepF j b = nmT d.liveL Q (d.stepF x b) ∧ (seesP d.liveL (d.stepF x b) = true → d.stepF x b ∈ Q) := by
  obtain ⟨l, h1, h2, h3⟩ := h.row j x hx
  have hr := h.qi.rng x (List.mem_of_getElem? hx)
  obtain ⟨v, hv⟩ := get_some (g.wide l (List.mem_of_getElem? h1) b hb)
  have hj := (List.getElem?_eq_some_iff.1 h2).1
  have e1 : d.stepF x b = v := by
    unfold DF.stepF DF.nxt
    rw [if_pos (by omega)]
    simp [List.getD_eq_getElem?_getD, h1, hv]
  have e2 : T.stepF j b = nmT d.liveL Q v := by
    unfold DF.stepF DF.nxt
    rw [if_pos (by omega), h.of]
    simp [List.getD_eq_getElem?_getD, h2, hv]
  rw [e1, e2]
  exact ⟨rfl, fun hs => h3 v (List.mem_of_getElem? hv) hs⟩
theorem idxOf_get {Q : List Int} {z : Int} (h : z ∈ Q) : Q[Q.idxOf z]? = some z := by
  rw [List.getElem?_eq_getElem (List.idxOf_lt_length_of_mem h)]
  simp
def SimT (d : DF) (Q : List Int) (k y : Int) : Prop := (∃ j : Nat, k = j ∧ Q[j]? = some y) ∨ (k = -1 ∧ seesP d.liveL y = false)
theorem simT_step {d T : DF} {Q : List Int} (g : d.Good) (h : TrOf d T Q) {k y : Int} (hs : SimT d Q k y) {b : Nat} (hb : b < 256) : SimT d Q (T.stepF k b) (d.stepF y b) := by
  rcases hs with ⟨j, rfl, hy⟩ | ⟨rfl, hy⟩
  · obtain ⟨e1, e2⟩ := live_step g h hy hb
    rw [e1]
    by_cases hl : seesP d.liveL (d.stepF y b) = true
    · unfold nmT
      rw [if_pos hl]
      exact .inl ⟨_, rfl, idxOf_get (e2 hl)⟩
    · unfold nmT
      rw [if_neg hl]
      exact .inr ⟨rfl, by simpa using hl⟩
  · refine .inr ⟨?_, dead_step g hy hb⟩
    unfold DF.stepF
    rw [if_neg (by omega)]
theorem simT_run {d T : DF} {Q : List Int} (g : d.Good) (h : TrOf d T Q) : ∀ (s : List UInt8) (k y : Int), SimT d Q k y → SimT d Q (s.foldl (fun k b => T.stepF k b.toNat) k) (s.foldl (fun k b => d.stepF k b.toNat) y)
  | [], _, _, hs => hs
  | b :: s, _, _, hs => simT_run g h s _ _ (simT_step g h hs b.toNat_lt)
theorem dead_tag {d : DF} (g : d.Good) {x : Int} (hx : seesP d.liveL x = false) (hr : 0 ≤ x ∧ x < d.rows.length) : d.tags.getD x.toNat 0 = -1 := by
  obtain ⟨t, ht⟩ := get_some (l := d.tags) (i := x.toNat) (by rw [g.tl]; omega)
  have h1 := g.tag t (List.mem_of_getElem? ht)
  simp only [List.getD_eq_getElem?_getD, ht, Option.getD_some]
  by_cases h0 : 0 ≤ t
  · have := (sees_iff hr).2 (.tag ht h0)
    rw [hx] at this
    simp at this
  · omega
theorem tag_keeps {d T : DF} {Q : List Int} (g : d.Good) (h : TrOf d T Q) (s : List UInt8) : T.tagF s = d.tagF s := by
  have hd : d.rows ≠ [] := fun e => by
    have := h.qi.rng 0 (List.mem_of_getElem? h.z0)
    rw [e] at this
    simp at this
  have hq := (List.getElem?_eq_some_iff.1 h.z0).1
  have hT : T.rows ≠ [] := fun e => by
    have := h.rl
    rw [e] at this
    simp at this
    rw [this] at hq
    simp at hq
  have hin := runF_in g s
  have hs := simT_run g h s 0 0 (.inl ⟨0, rfl, h.z0⟩)
  unfold DF.tagF
  unfold DF.runF at hin ⊢
  rw [if_neg hd] at hin ⊢
  rw [if_neg hT]
  generalize s.foldl (fun k b => T.stepF k b.toNat) 0 = k at hs ⊢
  generalize s.foldl (fun k b => d.stepF k b.toNat) 0 = y at hs hin ⊢
  rcases hs with ⟨j, rfl, hy⟩ | ⟨rfl, hy⟩
  · have hr := h.qi.rng y (List.mem_of_getElem? hy)
    obtain ⟨t, h1, h2⟩ := h.tag j y hy
    rw [if_neg (by omega), if_neg (by omega)]
    simp [List.getD_eq_getElem?_getD, h1, h2]
  · rw [if_pos (by omega)]
    split
    · rfl
    · rename_i h0
      exact (dead_tag g hy (by omega)).symm
theorem tag_dead {d : DF} (g : d.Good) (h0 : ¬d.liveL[0]? = some true) (s : List UInt8) : d.tagF s = -1 := by
  unfold DF.tagF
  have hin := runF_in g s
  unfold DF.runF at hin ⊢
  by_cases hd : d.rows = []
  · rw [if_pos hd] at hin ⊢
    rw [hd] at hin
    rw [if_pos (by simp only [List.length_nil] at hin; omega)]
  · rw [if_neg hd] at hin ⊢
    have hN : 0 < d.rows.length := List.length_pos_iff.2 hd
    have h1 : seesP d.liveL 0 = false := by
      unfold seesP
      cases hq : d.liveL[0]? with
      | none => simp [List.getD_eq_getElem?_getD, hq]
      | some b =>
        cases b with
        | true => exact absurd hq h0
        | false => simp [List.getD_eq_getElem?_getD, hq]
    have h2 : ∀ (s : List UInt8) (x : Int), seesP d.liveL x = false → seesP d.liveL (s.foldl (fun k b => d.stepF k b.toNat) x) = false := by
      intro s
      induction s with
      | nil => exact fun x h => h
      | cons b s ih => exact fun x h => ih _ (dead_step g h b.toNat_lt)
    have h3 := h2 s 0 h1
    generalize s.foldl (fun k b => d.stepF k b.toNat) 0 = y at h3 hin ⊢
    split
    · rfl
    · exact dead_tag g h3 (by omega)
theorem nmT_rng {d : DF} {Q : List Int} (g : d.Good) {z : Int} (h : seesP d.liveL z = true → z ∈ Q) : -1 ≤ nmT d.liveL Q z ∧ nmT d.liveL Q z < Q.length := by
  unfold nmT
  split
  · rename_i hs
    have := List.idxOf_lt_length_of_mem (h hs)
    omega
  · omega
theorem rowsB_of {N : Nat} {n : Int} : ∀ (ls : List (List Int)) (ts : List Int), (∀ (i : Nat) (l : List Int) (t : Int), ls[i]? = some l → ts[i]? = some t → rowB N n l t = true) → rowsB N n ls ts = true
  | [], _, _ => by simp [rowsB]
  | _ :: _, [], _ => by simp [rowsB]
  | l :: ls, t :: ts, h => by
    rw [rowsB_cons, h 0 l t rfl rfl, rowsB_of ls ts fun i l t hl ht => h (i + 1) l t (by simpa using hl) (by simpa using ht)]
    rfl
theorem trim_may {d T : DF} {Q : List Int} (g : d.Good) (h : TrOf d T Q) : T.may = true := by
  have hle := h.qi.le
  unfold DF.may
  rw [h.of, h.n, g.mayC, h.gl, h.rl]
  have := g.le
  rw [decide_eq_true (show Q.length ≤ 600 by omega)]
  simp only [decide_true, Bool.true_and]
  refine rowsB_of _ _ fun i l t hl ht => ?_
  have hi := (List.getElem?_eq_some_iff.1 hl).1
  obtain ⟨x, hx⟩ := get_some (l := Q) (i := i) (by have := h.rl; omega)
  obtain ⟨l', h1, h2, h3⟩ := h.row i x hx
  obtain ⟨t', k1, k2⟩ := h.tag i x hx
  rw [h2] at hl
  rw [k2] at ht
  obtain rfl := Option.some.inj hl
  obtain rfl := Option.some.inj ht
  have hlen := g.len l' (List.mem_of_getElem? h1)
  have htg := g.tag t' (List.mem_of_getElem? k1)
  unfold rowB
  rw [List.length_map, decide_eq_true hlen, decide_eq_true htg.1, decide_eq_true htg.2]
  simp only [Bool.true_and, Bool.not_eq_true', List.any_eq_false, List.mem_map, forall_exists_index, and_imp, forall_apply_eq_imp_iff₂, Bool.not_eq_true', Bool.and_eq_true, decide_eq_true_eq, Bool.not_eq_false]
  intro z hz
  have := nmT_rng g (h3 z hz)
  omega
theorem trim_lv {d T : DF} {Q : List Int} (g : d.Good) (h : TrOf d T Q) {y : Nat} (hl : d.Lv y) : ∀ j : Nat, Q[j]? = some (y : Int) → T.Lv j := by
  induction hl with
  | @tag i t ht h0 =>
    intro j hj
    obtain ⟨t', k1, k2⟩ := h.tag j _ hj
    rw [Int.toNat_natCast, ht] at k1
    obtain rfl := Option.some.inj k1
    exact .tag k2 h0
  | @step i l x hl hx h0 hlv ih =>
    intro j hj
    obtain ⟨l', h1, h2, h3⟩ := h.row j _ hj
    rw [Int.toNat_natCast, hl] at h1
    obtain rfl := Option.some.inj h1
    have hr := g.rng l (List.mem_of_getElem? hl) x hx
    have hs := (sees_iff (d := d) (x := x) (by omega)).2 hlv
    have hm := h3 x hx hs
    have hnm : nmT d.liveL Q x = (Q.idxOf x : Int) := by unfold nmT; rw [if_pos hs]
    refine .step h2 (List.mem_map.2 ⟨x, hx, rfl⟩) (by rw [hnm]; omega) ?_
    rw [hnm, Int.toNat_natCast]
    exact ih _ (by rw [Int.toNat_of_nonneg h0]; exact idxOf_get hm)
theorem trim_live {d T : DF} {Q : List Int} (g : d.Good) (h : TrOf d T Q) : ∀ j, j < T.rows.length → T.Lv j := by
  intro j hj
  obtain ⟨x, hx⟩ := get_some (l := Q) (i := j) (by have := h.rl; omega)
  have hm := List.mem_of_getElem? hx
  have hr := h.qi.rng x hm
  have := (sees_iff hr).1 (h.live x hm)
  exact trim_lv g h this j (by rw [Int.toNat_of_nonneg hr.1]; exact hx)
theorem trim_sees {d T : DF} {Q : List Int} (g : d.Good) (h : TrOf d T Q) {x : Int} (hx : -1 ≤ x ∧ x < T.rows.length) : seesP T.liveL x = decide (0 ≤ x) := by
  by_cases h0 : 0 ≤ x
  · rw [decide_eq_true h0]
    exact (sees_iff ⟨h0, hx.2⟩).2 (trim_live g h _ (by omega))
  · unfold seesP
    rw [decide_eq_false h0]
    rfl
/-! ### Trimmed again -/
def upto (m : Nat) : List Int := (List.range m).map fun (k : Nat) => (k : Int)
theorem upto_len (m : Nat) : (upto m).length = m := by simp [upto]
theorem upto_succ (m : Nat) : upto (m + 1) = upto m ++ [(m : Int)] := by simp [upto, List.range_succ]
theorem upto_mem {m : Nat} {x : Int} : x ∈ upto m ↔ 0 ≤ x ∧ x < m := by
  simp only [upto, List.mem_map, List.mem_range]
  refine ⟨fun ⟨k, hk, e⟩ => by omega, fun h => ⟨x.toNat, by omega, by omega⟩⟩
theorem upto_get {m j : Nat} (h : j < m) : (upto m)[j]? = some (j : Int) := by
  unfold upto
  rw [List.getElem?_map, List.getElem?_range h]; rfl
theorem upto_nodup (m : Nat) : (upto m).Nodup := by
  unfold upto List.Nodup
  rw [List.pairwise_map]
  exact List.nodup_range.imp fun h e => h (by omega)
theorem upto_idx {m j : Nat} (h : j < m) : (upto m).idxOf (j : Int) = j := by
  have h1 := List.getElem?_eq_some_iff.1 (upto_get h)
  have := List.Nodup.idxOf_getElem (upto_nodup m) j h1.1
  rwa [h1.2] at this
theorem fold_again {d T : DF} {Q : List Int} (g : d.Good) (h : TrOf d T Q) : ∀ (l q acc q2 : List Int), q.Nodup → (∀ z ∈ l, -1 ≤ z ∧ z < d.rows.length) → (l.foldl (stepT d.liveL) (q, acc)).1 ++ q2 = Q →
    (l.map (nmT d.liveL Q)).foldl (stepT T.liveL) (upto q.length, acc) = (upto (l.foldl (stepT d.liveL) (q, acc)).1.length, (l.foldl (stepT d.liveL) (q, acc)).2)
  | [], q, acc, q2, _, _, _ => rfl
  | z :: l, q, acc, q2, hn, hr, e => by
    rw [List.map_cons, List.foldl_cons, List.foldl_cons]
    rw [List.foldl_cons] at e
    have hQ : ∃ q3, (stepT d.liveL (q, acc) z).1 ++ q3 = Q := by
      obtain ⟨q', h1, _⟩ := foldT d.liveL l (stepT d.liveL (q, acc) z).1 (stepT d.liveL (q, acc) z).2
      exact ⟨q' ++ q2, by rw [← e, h1]; simp⟩
    obtain ⟨q3, hQ⟩ := hQ
    have hlen := h.rl
    by_cases hs : seesP d.liveL z = true
    · have hnm : nmT d.liveL Q z = (Q.idxOf z : Int) := by unfold nmT; rw [if_pos hs]
      by_cases hz : z ∈ q
      · have es : stepT d.liveL (q, acc) z = (q, acc ++ [(q.idxOf z : Int)]) := by unfold stepT; rw [if_pos hs]; simp only [if_pos hz]
        rw [es] at e hQ ⊢
        have hi : Q.idxOf z = q.idxOf z := by rw [← hQ, List.idxOf_append, if_pos hz]
        have hlt := List.idxOf_lt_length_of_mem hz
        have hle : q.length ≤ Q.length := by rw [← hQ]; simp
        have et : stepT T.liveL (upto q.length, acc) (nmT d.liveL Q z) = (upto q.length, acc ++ [(q.idxOf z : Int)]) := by
          rw [hnm, hi]
          unfold stepT
          rw [if_pos (by rw [trim_sees g h (by omega)]; simp)]
          rw [if_pos (upto_mem.2 (by omega)), upto_idx hlt]
        rw [et]
        exact fold_again g h l q _ q2 hn (fun y hy => hr y (by simp [hy])) e
      · have es : stepT d.liveL (q, acc) z = (q ++ [z], acc ++ [(q.idxOf z : Int)]) := by unfold stepT; rw [if_pos hs]; simp only [if_neg hz]
        rw [es] at e hQ ⊢
        have hl0 : q.idxOf z = q.length := List.idxOf_eq_length hz
        have hi : Q.idxOf z = q.length := by
          rw [← hQ, List.append_assoc, List.idxOf_append, if_neg hz]
          simp
        have hle : q.length < Q.length := by rw [← hQ]; simp
        have et : stepT T.liveL (upto q.length, acc) (nmT d.liveL Q z) = (upto (q ++ [z]).length, acc ++ [(q.idxOf z : Int)]) := by
          rw [hnm, hi, hl0]
          unfold stepT
          rw [if_pos (by rw [trim_sees g h (by omega)]; simp)]
          have hnot : ¬((q.length : Int) ∈ upto q.length) := fun hm => by have := upto_mem.1 hm; omega
          rw [if_neg hnot, List.idxOf_eq_length hnot, upto_len, List.length_append, List.length_singleton, upto_succ]
        rw [et]
        refine fold_again g h l (q ++ [z]) _ q2 ?_ (fun y hy => hr y (by simp [hy])) e
        exact List.nodup_append.2 ⟨hn, by simp, fun a ha b hb => by simp at hb; subst hb; intro e; subst e; exact hz ha⟩
    · have hnm : nmT d.liveL Q z = -1 := by unfold nmT; rw [if_neg hs]
      have es : stepT d.liveL (q, acc) z = (q, acc ++ [-1]) := by unfold stepT; rw [if_neg hs]
      have et : stepT T.liveL (upto q.length, acc) (nmT d.liveL Q z) = (upto q.length, acc ++ [-1]) := by
        rw [hnm]
        unfold stepT
        rw [if_neg (by rw [trim_sees g h (by omega)]; simp)]
      rw [es] at e hQ ⊢
      rw [et]
      exact fold_again g h l q _ q2 hn (fun y hy => hr y (by simp [hy])) e
theorem bfs_grow {d : DF} : ∀ (k i : Nat), ∃ q', (d.bfs (i + k)).q = (d.bfs i).q ++ q'
  | 0, i => ⟨[], by simp⟩
  | k + 1, i => by
    obtain ⟨q', h⟩ := bfs_grow (d := d) k i
    cases hx : (d.bfs (i + k)).q[i + k]? with
    | none =>
      have e : d.bfs (i + (k + 1)) = d.bfs (i + k) := by
        show (match (d.bfs (i + k)).q[i + k]? with
          | none => d.bfs (i + k)
          | some x => _) = _
        rw [hx]
      exact ⟨q', by rw [e, h]⟩
    | some x =>
      rw [show i + (k + 1) = (i + k) + 1 by omega, bfs_next hx]
      obtain ⟨q2, h2, _⟩ := foldT d.liveL (d.rows.getD x.toNat []) (d.bfs (i + k)).q []
      refine ⟨q' ++ q2, ?_⟩
      simp only
      rw [show (rowT d.liveL (d.bfs (i + k)).q (d.rows.getD x.toNat [])).1 = _ from h2, h]
      simp
theorem bi_upto {d : DF} (g : d.Good) (h0 : d.liveL[0]? = some true) {m : Nat} (hm : m = (d.bfs m).q.length) : ∀ i, i ≤ m → BI d i
  | 0, _ => BI.zero (by have := (List.getElem?_eq_some_iff.1 h0).1; rwa [liveL_len] at this)
  | i + 1, hi => by
    have hB := bi_upto g h0 hm i (by omega)
    have hle := hB.le
    by_cases e : (d.bfs i).q.length = i
    · have := bfs_stop e (m - i)
      rw [Nat.add_sub_cancel' (by omega)] at this
      rw [this] at hm
      omega
    · obtain ⟨x, hx⟩ := get_some (l := (d.bfs i).q) (i := i) (by omega)
      exact hB.next g hx
theorem bfs_again {d T : DF} {m : Nat} (g : d.Good) (h0 : d.liveL[0]? = some true) (hm : m = (d.bfs m).q.length) (h : TrOf d T (d.bfs m).q) :
    ∀ i, i ≤ m → (T.bfs i).q = upto (d.bfs i).q.length ∧ (T.bfs i).rows = (d.bfs i).rows ∧ (T.bfs i).tags = (d.bfs i).tags
  | 0, _ => ⟨rfl, rfl, rfl⟩
  | i + 1, hi => by
    obtain ⟨k1, k2, k3⟩ := bfs_again g h0 hm h i (by omega)
    have hB := bi_upto g h0 hm i (by omega)
    have hle := hB.le
    have hlt : i < (d.bfs i).q.length := by
      by_cases e : (d.bfs i).q.length = i
      · have := bfs_stop e (m - i)
        rw [Nat.add_sub_cancel' (by omega)] at this
        rw [this] at hm
        omega
      · omega
    obtain ⟨x, hx⟩ := get_some (l := (d.bfs i).q) (i := i) hlt
    obtain ⟨q', hq'⟩ := bfs_grow (d := d) (m - i) i
    rw [Nat.add_sub_cancel' (by omega)] at hq'
    have hQx : (d.bfs m).q[i]? = some x := by rw [hq', List.getElem?_append_left hlt]; exact hx
    obtain ⟨l, h1, h2, h3⟩ := h.row i x hQx
    obtain ⟨t, t1, t2⟩ := h.tag i x hQx
    have el : d.rows.getD x.toNat [] = l := by simp [List.getD_eq_getElem?_getD, h1]
    have et : d.tags.getD x.toNat 0 = t := by simp [List.getD_eq_getElem?_getD, t1]
    have el' : T.rows.getD i [] = l.map (nmT d.liveL (d.bfs m).q) := by simp [List.getD_eq_getElem?_getD, h2]
    have et' : T.tags.getD i 0 = t := by simp [List.getD_eq_getElem?_getD, t2]
    have hTx : (T.bfs i).q[i]? = some (i : Int) := by rw [k1]; exact upto_get hlt
    obtain ⟨q2, hq2⟩ := bfs_grow (d := d) (m - (i + 1)) (i + 1)
    rw [Nat.add_sub_cancel' (by omega), bfs_next hx, el] at hq2
    rw [bfs_next hx, bfs_next hTx, k1, k2, k3, el, et, Int.toNat_natCast, el', et']
    have hrng : ∀ z ∈ l, -1 ≤ z ∧ z < d.rows.length := g.rng l (List.mem_of_getElem? h1)
    have := fold_again g h l (d.bfs i).q [] q2 hB.qi.nd hrng hq2.symm
    unfold rowT
    rw [this]
    exact ⟨rfl, rfl, rfl⟩
theorem trim_again {d : DF} (g : d.Good) (T : DF) (gT : T.Good) (h0 : d.liveL[0]? = some true) (eT : T = d.trimD g.le) : Like (T.trimD gT.le) T := by
  obtain ⟨m, h1, h2, h3, h4⟩ := JT.all g h0
  have h := trimD_of g h0
  rw [← eT, h4] at h
  obtain ⟨k1, k2, k3⟩ := bfs_again g h0 h1 h m (Nat.le_refl _)
  have hl : T.rows.length = m := by rw [h.rl]; exact h1.symm
  have hT0 : T.liveL[0]? = some true := by
    have hq := (List.getElem?_eq_some_iff.1 h.z0).1
    have hlv := trim_live g h 0 (by omega)
    unfold DF.liveL
    rw [List.getElem?_map, List.getElem?_range (by omega)]
    simp [hlv]
  have e1 : T.rows = (d.bfs m).rows := by rw [eT]; unfold DF.trimD; rw [if_pos h0, ← h4]
  have e2 : T.tags = (d.bfs m).tags := by rw [eT]; unfold DF.trimD; rw [if_pos h0, ← h4]
  refine ⟨?_, ?_, ?_, ?_⟩
  · unfold DF.trimD; split <;> rfl
  · unfold DF.trimD; split <;> rfl
  · have : (T.trimD gT.le).rows = (T.bfs T.rows.length).rows := by unfold DF.trimD; rw [if_pos hT0]
    rw [this, hl, k2, e1]
  · have : (T.trimD gT.le).tags = (T.bfs T.rows.length).tags := by unfold DF.trimD; rw [if_pos hT0]
    rw [this, hl, k3, e2]
theorem empty_again {T : DF} (h : T.rows.length ≤ 600) (hr : T.rows = []) (ht : T.tags = []) : Like (T.trimD h) T := by
  have h0 : ¬T.liveL[0]? = some true := by
    rw [List.getElem?_eq_none (by rw [liveL_len, hr]; exact Nat.le_refl _)]
    simp
  obtain ⟨a, b, c, e⟩ := trimD_not h h0
  exact ⟨c, e, by rw [a, hr], by rw [b, ht]⟩
theorem trim_facts {d : DF} (g : d.Good) : ∃ gT : (d.trimD g.le).may = true, Like ((d.trimD g.le).trimD (DF.good gT).le) (d.trimD g.le) ∧ (d.trimD g.le).rows.length ≤ d.rows.length ∧ (∀ s, (d.trimD g.le).tagF s = d.tagF s) ∧
    (d.trimD g.le).liveL = List.replicate (d.trimD g.le).rows.length true := by
  have fin : ∀ T : DF, (∀ j, j < T.rows.length → T.Lv j) → T.liveL = List.replicate T.rows.length true := by
    intro T h
    refine List.ext_getElem? fun j => ?_
    by_cases hj : j < T.rows.length
    · unfold DF.liveL
      rw [List.getElem?_map, List.getElem?_range hj, List.getElem?_replicate, if_pos hj]
      simp [h j hj]
    · rw [List.getElem?_eq_none (by rw [liveL_len]; omega), List.getElem?_eq_none (by simp; omega)]
  by_cases h0 : d.liveL[0]? = some true
  · have h := trimD_of g h0
    have hm := trim_may g h
    refine ⟨hm, trim_again g _ (DF.good hm) h0 rfl, by rw [h.rl]; exact h.qi.le, fun s => tag_keeps g h s, fin _ (trim_live g h)⟩
  · obtain ⟨a, b, c, e⟩ := trimD_not g.le h0
    have hm : (d.trimD g.le).may = true := by
      unfold DF.may
      rw [a, b, c, e, g.mayC]
      rfl
    refine ⟨hm, empty_again _ a b, by rw [a]; simp, fun s => ?_, fin _ fun j hj => by rw [a] at hj; simp at hj⟩
    rw [tag_dead g h0 s]
    unfold DF.tagF DF.runF
    rw [a]
    simp
    intro hc
    exfalso
    clear hm
    induction s with
    | nil => simp at hc
    | cons b s ih =>
      rw [List.foldl_cons] at hc
      have : (d.trimD g.le).stepF (-1) b.toNat = -1 := by unfold DF.stepF; rw [if_neg (by omega)]
      rw [this] at hc
      exact ih hc
section
variable {E : Env} [R : DfaR E]
set_option maxHeartbeats 4000000 in
theorem dfaTrims_den (hC : ClsDen E R.n_class_May) (hC2 : ClsDen E R.n_hackleref02_May) (ha : ∀ H, den E R.n_hacklelaw09_alive [] H = some (.ret (.bool true), H)) (d : DF) (s : List UInt8) (hs0 : s.length ≤ 9223372036854775807) :
    den E R.n_hacklelaw09_DfaTrims [d.E, .str s] [] = some (.ret (.bool true), []) := by
  obtain ⟨k1, k2, hle, hle2, o1, o2, hA, hL, hx1, hx2, hn, htk⟩ := d.facts
  unfold EV.one at o1 o2
  have al := fun H => ha H
  have hgr := fun H => great_den (R := R) d H
  have hof := fun H => of_den (R := R) d H
  have hm2 := fun H => refDMay_den (R := R) hC2 d H
  refine den_of R.d_hacklelaw09_DfaTrims (by simp) ?_
  unfold Gn.hacklelaw09_DfaTrims Gn.hacklelaw09_DfaTrims_r
  unfold DF.E at hgr hof hm2 ⊢
  refine Hd_cut2 (fun t H' => Sl t [(1, .str s), (2, .ptr 0 259 0 0)] ∧ H' = [some (.row 259 [.agg (dfc d.of d.n d.x1 d.x2)])]) ?_ ?_
  · repeat' first | (simp (disch := first | omega | assumption) only [go_sem, ↓reduceIte, simprocAttr, Sl, *]) | refine HG_split (fun hb=>?_) fun hb=>?_ | refine HC_split (fun hb=>?_) fun hb=>?_
  rintro t _ ⟨ht, rfl⟩
  simp (disch := omega) only [go_sem, ↓reduceIte, simprocAttr, Sl] at ht
  refine Hd_cut2 (fun t H' => Sl t [(1, .str s), (2, .ptr 0 259 0 0)] ∧ H' = [some (.row 259 [.agg (dfc d.of d.n d.x1 d.x2)])]) ?_ ?_
  · repeat' first | (simp (disch := first | omega | assumption) only [go_sem, ↓reduceIte, simprocAttr, Sl, *]) | refine HG_split (fun hb=>?_) fun hb=>?_ | refine HC_split (fun hb=>?_) fun hb=>?_
    all_goals simp [ht]
  rintro t2 _ ⟨ht2, rfl⟩
  simp (disch := omega) only [go_sem, ↓reduceIte, simprocAttr, Sl] at ht2
  clear ht t al ha
  cases hg : d.great with
  | true =>
    rw [hg] at hgr
    repeat' first | (simp (disch := first | omega | assumption) only [go_sem, ↓reduceIte, simprocAttr, *]) | refine HG_split (fun hb=>?_) fun hb=>?_ | refine HC_split (fun hb=>?_) fun hb=>?_
    all_goals (try simp only [FX] at *)
    all_goals first | omega | exact finV_drop (H := []) rfl rfl
  | false =>
  rw [hg] at hgr
  by_cases hs1 : s.length > 100
  · repeat' first | (simp (disch := first | omega | assumption) only [go_sem, ↓reduceIte, simprocAttr, *]) | refine HG_split (fun hb=>?_) fun hb=>?_ | refine HC_split (fun hb=>?_) fun hb=>?_
    all_goals (try simp only [FX] at *)
    all_goals first | omega | exact finV_drop (H := []) rfl rfl
  cases hm : d.may with
  | false =>
    rw [hm] at hm2
    repeat' first | (simp (disch := first | omega | assumption) only [go_sem, ↓reduceIte, simprocAttr, *]) | refine HG_split (fun hb=>?_) fun hb=>?_ | refine HC_split (fun hb=>?_) fun hb=>?_
    all_goals (try simp only [FX] at *)
    all_goals first | omega | exact finV_drop (H := []) rfl rfl
  | true =>
  rw [hm] at hm2
  refine Hd_cut2 (fun t H' => Sl t [(1, .str s), (2, .ptr 0 259 0 0)] ∧ H' = [some (.row 259 [.agg (dfc d.of d.n d.x1 d.x2)])]) ?_ ?_
  · repeat' first | (simp (disch := first | omega | assumption) only [go_sem, ↓reduceIte, simprocAttr, Sl, Bool.not_true, *]) | refine HG_split (fun hb=>?_) fun hb=>?_ | refine HC_split (fun hb=>?_) fun hb=>?_
    all_goals (try simp only [FX] at *)
    all_goals first | omega | skip
    all_goals simp [ht2]
  rintro t _ ⟨ht, rfl⟩
  simp (disch := omega) only [go_sem, ↓reduceIte, simprocAttr, Sl] at ht
  clear ht2 t2 hgr
  have g := DF.good hm
  obtain ⟨gT, hlike, hrl, htag, hlv⟩ := trim_facts g
  generalize hT : d.trimD g.le = T at gT hlike hrl htag hlv
  have gg := DF.good gT
  have e0 := fun H => dTrim_den (R := R) hC d hm H
  rw [← trimD_E d g.le, hT] at e0
  obtain ⟨j1, j2, jle, jle2, p1, p2, jA, jL, jx1, jx2, jn, jtk⟩ := T.facts
  unfold EV.one at p1 p2
  have eT := fun H => dTrim_den (R := R) hC T gT H
  rw [← trimD_E T gg.le] at eT
  have eS := fun H => dSame_den (R := R) (T.trimD gg.le) T hlike H
  have eG := fun H => dTag_den (R := R) hC T s hs0 H
  rw [gT, htag] at eG
  simp only [if_true] at eG
  have eR := fun H => refDTag_den (R := R) d g s hs0 H
  have eP := fun H => plain_den (R := R) T H
  have eM := fun H => refDMay_den (R := R) hC2 T H
  rw [gT] at eM
  have eL := fun H => refLive_den (R := R) T gg H
  rw [hlv] at eL
  generalize hW : (T.trimD gg.le).E = W at eT eS
  unfold DF.E at e0 eT eS eG eR eP eM eL
  have hz : (EV.agg ((tab 256 fun _ => EV.int .u8 0) ++ [EV.int .i64 0] ++ [EV.nilsl, EV.nilsl])).ok 0 = true := by
    have := (zeroD).ok (n := 0)
    unfold dfc zeroD at this
    simpa using this
  refine Hd_cut2 (fun t H' => Sl t [(1, .str s), (2, .ptr 0 259 0 0), (5, .ptr 1 259 0 0)] ∧ H' = [some (.row 259 [.agg (dfc d.of d.n d.x1 d.x2)]), some (.row 259 [.agg (dfc T.of T.n T.x1 T.x2)])]) ?_ ?_
  · repeat' first | (simp (disch := first | omega | assumption) only [go_sem, ↓reduceIte, simprocAttr, Sl, *]) | refine HG_split (fun hb=>?_) fun hb=>?_ | refine HC_split (fun hb=>?_) fun hb=>?_
  rintro t2 _ ⟨ht2, rfl⟩
  simp (disch := omega) only [go_sem, ↓reduceIte, simprocAttr, Sl] at ht2
  clear ht t e0 hof
  have hbb : (d.tagF s != d.tagF s) = false := by simp
  refine Hd_cut2 (fun t H' => Sl t [(1, .str s), (2, .ptr 0 259 0 0), (5, .ptr 1 259 0 0)] ∧ H' = [some (.row 259 [.agg (dfc d.of d.n d.x1 d.x2)]), some (.row 259 [.agg (dfc T.of T.n T.x1 T.x2)])]) ?_ ?_
  · repeat' first | (simp (disch := first | omega | assumption) only [go_sem, ↓reduceIte, simprocAttr, Sl, Bool.not_true, *]) | refine HG_split (fun hb=>?_) fun hb=>?_ | refine HC_split (fun hb=>?_) fun hb=>?_
    all_goals (try simp only [FX] at *)
    all_goals first | omega | skip
    all_goals simp [ht2]
  rintro t _ ⟨ht, rfl⟩
  simp (disch := omega) only [go_sem, ↓reduceIte, simprocAttr, Sl] at ht
  clear ht2 t2 hbb eT eS eG eR
  have hbl : (boolsE (List.replicate T.rows.length true)).length = T.rows.length := by rw [boolsE_len]; simp
  have hTl := gg.le
  refine Hd_cut2 (fun t H' => Sl t [(6, .imm 1 (boolsE (List.replicate T.rows.length true)))] ∧ H' = [some (.row 259 [.agg (dfc d.of d.n d.x1 d.x2)]), some (.row 259 [.agg (dfc T.of T.n T.x1 T.x2)])]) ?_ ?_
  · repeat' first | (simp (disch := first | omega | assumption) only [go_sem, ↓reduceIte, simprocAttr, Sl, *]) | refine HG_split (fun hb=>?_) fun hb=>?_ | refine HC_split (fun hb=>?_) fun hb=>?_
  rintro t2 _ ⟨ht2, rfl⟩
  simp (disch := omega) only [go_sem, ↓reduceIte, simprocAttr, Sl] at ht2
  clear ht t
  refine Hd_cut2 (fun t H' => Sl t [] ∧ H' = [some (.row 259 [.agg (dfc d.of d.n d.x1 d.x2)]), some (.row 259 [.agg (dfc T.of T.n T.x1 T.x2)])]) ?_ ?_
  · simp (disch := omega) only [go_sem, ↓reduceIte, simprocAttr, *]
    refine while_of (ι := Nat) (fun i => i ≤ T.rows.length) (fun i => T.rows.length - i) (fun i => [(6, .imm 1 (boolsE (List.replicate T.rows.length true))), (7, .int .i64 i)]) (fun _ => [some (.row 259 [.agg (dfc d.of d.n d.x1 d.x2)]), some (.row 259 [.agg (dfc T.of T.n T.x1 T.x2)])]) 0 (by omega) ?_ rfl ?_
    · simp (disch := omega) only [go_sem, ↓reduceIte, simprocAttr, Sl, ht2, and_self]
    · rintro i t hi ht K hK
      simp (disch := omega) only [go_sem, ↓reduceIte, simprocAttr, Sl] at ht
      by_cases hlt : i < T.rows.length
      · have hgi : (boolsE (List.replicate T.rows.length true))[i]? = some (.bool true) := boolsE_get (by rw [List.getElem?_replicate, if_pos hlt])
        have go := fun s' H' => hK (i + 1) s' H' (by omega) (by omega)
        have hel : evElem 1 (i : Int) (.imm 1 (boolsE (List.replicate T.rows.length true))) = some (.iptr [.bool true] 0) := by
          simp [evElem, hgi, EV.cells]
        clear hK
        repeat' first | (simp (disch := first | omega | assumption) only [go_sem, ↓reduceIte, simprocAttr, *]) | refine HG_split (fun hb=>?_) fun hb=>?_ | refine HC_split (fun hb=>?_) fun hb=>?_
        all_goals (try simp only [FX] at *)
        all_goals first
          | omega
          | (refine go _ _ ?_ rfl; simp (disch := omega) only [go_sem, ↓reduceIte, simprocAttr, Sl, ht, and_self, cast_succ])
      · clear hK
        repeat' first | (simp (disch := first | omega | assumption) only [go_sem, ↓reduceIte, simprocAttr, *]) | refine HG_split (fun hb=>?_) fun hb=>?_ | refine HC_split (fun hb=>?_) fun hb=>?_
        all_goals (try simp only [FX] at *)
        all_goals first | omega | skip
        all_goals (simp (disch := omega) only [go_sem, ↓reduceIte, simprocAttr, Sl, and_self])
  rintro t _ ⟨ht, rfl⟩
  repeat' first | (simp (disch := first | omega | assumption) only [go_sem, ↓reduceIte, simprocAttr, *]) | refine HG_split (fun hb=>?_) fun hb=>?_ | refine HC_split (fun hb=>?_) fun hb=>?_
  all_goals (try simp only [FX] at *)
  all_goals first | omega | exact finV_drop (H := []) rfl rfl
end
end Abs
