/- Maps whose keys are numbers, strings, bools, or structs and arrays of such. -/
import Derived.Test.YtcjnpmaljfkpgaaDoorAbs7
import Derived.Test.YtcjnpmaljfkpgaaDoorAbs8
namespace Abs
open Go

theorem checkTy {P : Program} (em : Bool) (D : Nat) : ∀ (d : Nat) (t : TypeId) (ks : List SK), flatK P d t = some ks → ∀ (cs : List EV) (w : World), fits ks cs = true →
    (Instr.checkKey em (D + d) t (valT P t (cs.map toVal))).run P w = .ok () w
  | 0, t, ks, h => by simp [flatK] at h
  | d + 1, t, ks, h => by
    intro cs w hc
    have IH := checkTy (P := P) em D d
    unfold flatK at h
    split at h
    · rename_i hu
      simp only [Option.some.injEq] at h; subst h
      match cs, hc with
      | [.bool a], _ =>
        simp only [valT, hu, List.map_cons, List.map_nil, toVal, List.headD_cons]
        rw [show D + (d + 1) = (D + d) + 1 from rfl, Instr.checkKey]
        simp [run_underlying hu]
    · rename_i k hu
      simp only [Option.some.injEq] at h; subst h
      have one : ∀ {xs : List EV}, fits [.i k] xs = true → ∃ a, xs = [.int k a] := by
        intro xs h
        cases xs with
        | nil => simp [fits] at h
        | cons x xs =>
          cases xs with
          | nil =>
            cases x <;> simp [fits, fit] at h
            subst h; exact ⟨_, rfl⟩
          | cons y ys => simp [fits] at h
      obtain ⟨a, rfl⟩ := one hc
      simp only [valT, hu, List.map_cons, List.map_nil, toVal, List.headD_cons]
      rw [show D + (d + 1) = (D + d) + 1 from rfl, Instr.checkKey]
      simp [run_underlying hu]
    · rename_i hu
      simp only [Option.some.injEq] at h; subst h
      match cs, hc with
      | [.str a], _ =>
        simp only [valT, hu, List.map_cons, List.map_nil, toVal, List.headD_cons]
        rw [show D + (d + 1) = (D + d) + 1 from rfl, Instr.checkKey]
        simp [run_underlying hu]
    · rename_i n e hu
      split at h
      · rename_i ls i hls hi
        split at h
        · rename_i hsz
          simp only [Option.some.injEq] at h
          simp only [valT, hu]
          rw [show D + (d + 1) = (D + d) + 1 from rfl, Instr.checkKey]
          simp only [Sem.run_bind, run_underlying hu, Result.andThen_ok]
          obtain ⟨k, hk, hk1⟩ := flatK_info hls
          simp only [Std.Legacy.Range.forIn_eq_forIn_range', Std.Legacy.Range.size, Nat.sub_zero, Nat.add_one_sub_one, Nat.div_one]
          have hcell : P.cellsOf e = ls.length := by simp [Program.cellsOf, hi, hsz]
          have key : ∀ (m j : Nat), fits (List.replicate m ls).flatten (cs.drop (j * ls.length)) = true →
              (forIn (List.range' j m) PUnit.unit fun i _ => (do Instr.checkKey em (D + d) e (← part e (cs.map toVal).toArray (i * (← Go.sizeOf e))); Pure.pure (ForInStep.yield PUnit.unit) : Sem (ForInStep PUnit))).run P w = .ok PUnit.unit w := by
            intro m
            induction m with
            | zero => intro j h1; simp
            | succ m ih =>
              intro j h1
              simp only [List.replicate_succ, List.flatten_cons] at h1
              have l1 := fits_len h1
              have a1 := fits_append h1
              rw [List.drop_drop, show j * ls.length + ls.length = (j + 1) * ls.length by rw [Nat.add_mul]; omega] at a1
              have g := ih (j + 1) a1.2
              simp only [List.length_drop, List.length_append] at l1
              have b1 : j * ls.length + ls.length ≤ cs.length := by
                rcases Nat.eq_zero_or_pos ls.length with h0 | h0
                · simp [h0]
                · omega
              simp only [List.range'_succ, List.forIn_cons, Sem.run_bind, run_sizeOf w hi, hcell, Result.andThen_ok]
              rw [part_valT hi hk (cs.map toVal) _ w (by rw [List.length_map, hsz]; omega) (by rw [hsz]; exact hk1), Result.andThen_ok, hsz]
              rw [← List.map_drop, ← List.map_take, IH e ls hls _ w a1.1, Result.andThen_ok]
              simp only [Sem.run_pure, Result.andThen_ok]
              simpa only [Sem.run_bind] using g
          have := key n 0 (by rw [h]; simpa using hc)
          simp at this ⊢
          rw [this]
          simp
        · simp at h
      · simp at h
    · rename_i fs hu
      split at h
      · simp at h
      · rename_i hst
        simp only [valT, hu]
        rw [show D + (d + 1) = (D + d) + 1 from rfl, Instr.checkKey]
        simp only [Sem.run_bind, run_underlying hu, Result.andThen_ok]
        rw [← Array.forIn_toList]
        generalize fs.toList = l at h
        have none_fold : ∀ (l : List Field), l.foldl (fun acc f =>
            match acc, flatK P d f.type, P.info? f.type with
            | some ks, some ls, some i => if f.offset = ks.length && i.size = ls.length && f.name != "_" then some (ks ++ ls) else none
            | _, _, _ => none) (none : Option (List SK)) = none := by
          intro l
          induction l with
          | nil => rfl
          | cons f l ih => simpa using ih
        have key : ∀ (l : List Field) (pre : List SK), l.foldl (fun acc f =>
            match acc, flatK P d f.type, P.info? f.type with
            | some ks, some ls, some i => if f.offset = ks.length && i.size = ls.length && f.name != "_" then some (ks ++ ls) else none
            | _, _, _ => none) (some pre) = some ks →
            (∀ f ∈ l, f.name ≠ "_" ∧ ∃ a, (part f.type (cs.map toVal).toArray f.offset).run P w = .ok a w ∧ (Instr.checkKey em (D + d) f.type a).run P w = .ok () w) ∧ ∃ suf, ks = pre ++ suf := by
          intro l
          induction l with
          | nil =>
            intro pre hp
            simp only [List.foldl_nil, Option.some.injEq] at hp
            subst hp
            exact ⟨by simp, [], by simp⟩
          | cons f l ih =>
            intro pre hp
            rw [List.foldl_cons] at hp
            cases hls : flatK P d f.type with
            | none => simp only [hls, none_fold] at hp; simp at hp
            | some ls =>
              cases hi : P.info? f.type with
              | none => simp only [hls, hi, none_fold] at hp; simp at hp
              | some i =>
                simp only [hls, hi] at hp
                split at hp
                · rename_i hcond
                  simp only [Bool.and_eq_true, decide_eq_true_eq, bne_iff_ne, ne_eq] at hcond
                  obtain ⟨⟨hoff, hsz⟩, hnm⟩ := hcond
                  obtain ⟨g, suf, hsuf⟩ := ih (pre ++ ls) hp
                  refine ⟨?_, ls ++ suf, by rw [hsuf]; simp⟩
                  obtain ⟨k, hk, hk1⟩ := flatK_info hls
                  have l1 := fits_len hc
                  rw [hsuf] at l1
                  simp only [List.length_append] at l1
                  have f1 : fits ls ((cs.drop pre.length).take ls.length) = true := by
                    have h1 := hc
                    rw [hsuf, List.append_assoc] at h1
                    exact (fits_append (fits_append h1).2).1
                  intro y hy
                  rcases List.mem_cons.1 hy with rfl | hy
                  · refine ⟨hnm, _, part_valT hi hk (cs.map toVal) _ w (by rw [List.length_map, hsz]; omega) (by rw [hsz]; exact hk1), ?_⟩
                    rw [hsz, hoff, ← List.map_drop, ← List.map_take]
                    exact IH y.type ls hls _ w f1
                  · exact g y hy
                · rw [none_fold] at hp; simp at hp
        have each := (key l [] h).1
        clear key none_fold h
        induction l with
        | nil => simp
        | cons f l ih =>
          obtain ⟨hn, a, p1, p2⟩ := each f (by simp)
          simp only [List.forIn_cons, Sem.run_bind, hn, ne_eq, not_false_eq_true, if_true, Result.andThen_ok, p1, p2, Sem.run_pure]
          exact ih (fun y hy => each y (by simp [hy]))
    · simp at h

/-- A type's key value. -/
def keyV (P : Program) (t : TypeId) (k : EV) : Value := valT P t (k.cells.map toVal)

theorem rv_key {P : Program} {φ : Nat → Nat} {N : Nat} {I : Nat → Prop} {w : World} {t : TypeId} {ag : Bool} {ks : List SK} {k : EV} {v : Value} (hd : ∃ d, P.underlying t = some d ∧ aggD d = ag)
    (hf : keyFit ag ks k = true) (h : RV φ N I w k v) : v = keyV P t k := by
  obtain ⟨d, hu, ha⟩ := hd
  have hc := keyFit_cells hf
  unfold keyV
  unfold keyFit at hf
  split at hf
  · rename_i cs
    simp only [Bool.and_eq_true] at hf
    obtain ⟨rfl, hf⟩ := hf
    cases h with
    | agg _ vs hl hv =>
    rw [valT_agg ⟨d, hu, ha⟩]
    have := rv_fits (vs := vs.toList) hf (by simpa using hl) (fun k x v h1 h2 => hv k x v h1 (by simpa using h2))
    simp only [EV.cells]
    rw [← this]
  · rename_i x hx
    simp only [Bool.and_eq_true, Bool.not_eq_true'] at hf
    obtain ⟨rfl, hf⟩ := hf
    have hxc : k.cells = [k] := not_agg_cells hx
    have := rv_fits (vs := [v]) hf rfl (fun j x u h1 h2 => by
      cases j with
      | zero => simp at h1 h2; subst h1 h2; exact h
      | succ j => simp at h1)
    rw [hxc, ← this]
    unfold valT
    rw [hu]
    cases d <;> first | rfl | exact absurd ha (by simp [aggD])

end Abs
