/- Rounds of loops, and ends of calls. -/
import Derived.Test.YtihgbhkpjehhcaaAbs15
namespace Abs
open Go

mutual
theorem EV.ok_mono {n m : Nat} (h : n ≤ m) : ∀ (x : EV), x.ok n = true → x.ok m = true
  | .undef, _ => rfl
  | .bool _, _ => rfl
  | .int _ _, _ => rfl
  | .str _, _ => rfl
  | .nilptr, _ => rfl
  | .ptr _ _ _ _, g => by simp [EV.ok] at g ⊢; omega
  | .iptr cs _, g => by simp only [EV.ok] at g ⊢; exact okL_mono h cs g
  | .nilsl, _ => rfl
  | .imm _ es, g => by simp only [EV.ok] at g ⊢; exact okL_mono h es g
  | .own _ _ _ _, g => by simp [EV.ok] at g ⊢; omega
  | .nilfn, _ => rfl
  | .func _ a b, g => by simp only [EV.ok, Bool.and_eq_true] at g ⊢; exact ⟨okL_mono h a g.1, okL_mono h b g.2⟩
  | .nilif, _ => rfl
  | .iface _ v, g => by simp only [EV.ok] at g ⊢; exact EV.ok_mono h v g
  | .nilmap, _ => rfl
  | .map _, g => by simp [EV.ok] at g ⊢; omega
  | .agg cs, g => by simp only [EV.ok] at g ⊢; exact okL_mono h cs g
  | .tup cs, g => by simp only [EV.ok] at g ⊢; exact okL_mono h cs g
theorem okL_mono {n m : Nat} (h : n ≤ m) : ∀ (l : List EV), okL n l = true → okL m l = true
  | [], _ => rfl
  | x :: l, g => by simp only [okL, Bool.and_eq_true] at g ⊢; exact ⟨EV.ok_mono h x g.1, okL_mono h l g.2⟩
end

theorem EB.ok_mono {n m : Nat} (h : n ≤ m) (x : EB) (g : x.ok n = true) : x.ok m = true := by
  cases x with
  | row sz es => simp only [EB.ok] at g ⊢; exact okL_mono h es g
  | map es =>
    simp only [EB.ok, List.all_eq_true, Bool.and_eq_true] at g ⊢
    exact fun e he => ⟨EV.ok_mono h _ (g e he).1, EV.ok_mono h _ (g e he).2⟩
  | it s p => rfl

theorem okL_app {n : Nat} {a b : List EV} : okL n (a ++ b) = (okL n a && okL n b) := by
  induction a with
  | nil => simp [okL]
  | cons x a ih => simp [okL, ih, Bool.and_assoc]
theorem okL_tab {n m : Nat} {f : Nat → EV} (h : ∀ i, i < n → (f i).ok m = true) : okL m (tab n f) = true := by
  rw [okL_iff]
  intro x hx
  simp only [tab, List.mem_map, List.mem_range] at hx
  obtain ⟨i, hi, rfl⟩ := hx
  exact h i hi
theorem okL_tab_int {n m : Nat} {κ : IntKind} {w : Nat → Int} : okL m (tab n fun i => .int κ (w i)) = true := okL_tab fun _ _ => rfl
theorem okL_tab_bool {n m : Nat} {w : Nat → Bool} : okL m (tab n fun i => .bool (w i)) = true := okL_tab fun _ _ => rfl

def okG (n : Nat) : Heap → Bool
  | [] => true
  | none :: G => okG n G
  | some x :: G => x.ok n && okG n G

theorem okG_get {n : Nat} : ∀ {G : Heap}, okG n G = true → ∀ (b : Nat) (x : EB), G[b]? = some (some x) → x.ok n = true
  | [], _, b, x, h => by simp at h
  | none :: G, g, 0, x, h => by simp at h
  | none :: G, g, b + 1, x, h => okG_get (G := G) g b x (by simpa using h)
  | some y :: G, g, 0, x, h => by simp at h; subst h; simp only [okG, Bool.and_eq_true] at g; exact g.1
  | some y :: G, g, b + 1, x, h => by simp only [okG, Bool.and_eq_true] at g; exact okG_get (G := G) g.2 b x (by simpa using h)

theorem okH_app {H G : Heap} (h : OkH H) (g : okG (H.length + G.length) G = true) : OkH (H ++ G) := by
  intro b x hx
  by_cases hb : b < H.length
  · rw [List.getElem?_append_left hb] at hx
    exact EB.ok_mono (by simp) x (h b x hx)
  · rw [List.getElem?_append_right (by omega)] at hx
    rw [List.length_append]
    exact okG_get g _ x hx

theorem okH_nil {G : Heap} (g : okG G.length G = true) : OkH G := by
  have := okH_app (H := []) (G := G) (fun b x h => by simp at h) (by simpa using g)
  simpa using this

section
variable {P : Program} {γ : Nat → EV} {Inv : Nat → Slots → Heap → Prop} {m n0 : Nat} {s : Slots} {H : Heap}

def slotsAre (s : Slots) (n : Nat) : List (Nat × EV) → Prop
  | [] => True
  | p :: l => (s p.1 = p.2 ∧ p.2.ok n = true) ∧ slotsAre s n l

theorem slotsAre_mem {s : Slots} {n : Nat} : ∀ {l : List (Nat × EV)}, slotsAre s n l → ∀ p ∈ l, s p.1 = p.2 ∧ p.2.ok n = true
  | [], _, p, h => by simp at h
  | q :: l, g, p, h => by
    rcases List.mem_cons.1 h with rfl | h
    · exact g.1
    · exact slotsAre_mem g.2 p h

/-- A round that keeps the blocks. -/
theorem round_keep (m1 : Nat) (l : List (Nat × EV)) (hm : m1 < m) (hn : n0 ≤ H.length) (hok : OkH H) (hs : slotsAre s H.length l) (h : Inv m1 (mkS l) H) : Hands Inv m n0 s H :=
  round_end m1 l H.length hm hn (slotsAre_mem hs) (fun b x _ hx => hok b x hx) (by rwa [List.take_of_length_le (Nat.le_refl _)])

/-- .. that lets go of blocks that it made. -/
theorem round_drop {G : Heap} (m1 : Nat) (l : List (Nat × EV)) (hm : m1 < m) (hn : n0 ≤ H.length) (hok : OkH H) (hs : slotsAre s H.length l) (h : Inv m1 (mkS l) H) : Hands Inv m n0 s (H ++ G) :=
  round_end m1 l H.length hm hn (slotsAre_mem hs) (fun b x hb hx => hok b x (by rwa [List.getElem?_append_left hb] at hx)) (by rwa [List.take_left])

/-- A loop whose head's slots are a row. -/
theorem wpc_loop' {Q : AX → Slots → Heap → Prop} {c : EC} (Inv : Nat → Slots → Heap → Prop) (m0 : Nat) (l : List (Nat × EV)) (hl : slotsAre s H.length l) (h0 : Inv m0 (mkS l) H)
    (h : ∀ m s' H', Inv m s' H' → ∀ (K : Slots → Heap → Prop) (Q' : AX → Slots → Heap → Prop), (∀ s1 H1, Hands Inv m H.length s1 H1 → K s1 H1) → (∀ x s1 H1, Q x s1 H1 → Q' x s1 H1) → wpc P γ c (thenA K Q') s' H') :
    wpc P γ (.loop c) Q s H :=
  wpc_loop Inv m0 l (fun p hp => (slotsAre_mem hl p hp).1) h0 h

end
end Abs
namespace Abs
open Go
section
variable {P : Program} {γ : Nat → EV} {s : Slots} {H : Heap} {Q : AX → Slots → Heap → Prop} {c : EC}

theorem wpc_true {c : EOpd} {a b : EC} (hc : ev γ s c = .bool true) (h : wpc P γ a Q s H) : wpc P γ (.cond c a b) Q s H := wpc_cond hc (fun _ => h) (fun e => by simp at e)
theorem wpc_false {c : EOpd} {a b : EC} (hc : ev γ s c = .bool false) (h : wpc P γ b Q s H) : wpc P γ (.cond c a b) Q s H := wpc_cond hc (fun e => by simp at e) (fun _ => h)

theorem wops_unguard {g : Nat} {b : Bool} {d : Option Nat} {op : EOp} {rest : List EOper} (hg : s g = .bool b) (h : wops P γ Q ({ dst := d, op := op } :: rest) s H) : wops P γ Q ({ dst := d, op := op, guard := some (g, b) } :: rest) s H := by
  simp only [wops] at h ⊢
  rw [hg]
  simpa using h
theorem wops_leave {g : Nat} {b t : Bool} {d : Option Nat} {op : EOp} {rest : List EOper} (hg : s g = .bool t) (ht : (t == b) = false) (h : wops P γ Q rest (putA s d (.tup [])) H) : wops P γ Q ({ dst := d, op := op, guard := some (g, b) } :: rest) s H := by
  simp only [wops]
  rw [hg]
  have : ¬ t = b := by simpa using ht
  simpa [this] using h
theorem wdr_unguard {g : Nat} {b c : Bool} {d : Option Nat} {op : EOp} {rest : List (EOper × Bool)} (hg : s g = .bool b) (h : wdr P γ Q (({ dst := d, op := op }, c) :: rest) s H) : wdr P γ Q (({ dst := d, op := op, guard := some (g, b) }, c) :: rest) s H := by
  obtain ⟨v, H', h1, h2, h3⟩ := h
  refine ⟨v, H', ?_, h2, h3⟩
  exact .inl ⟨b, hg, fun _ => h1, fun e => absurd rfl e⟩
theorem wdr_leave {g : Nat} {b t c : Bool} {d : Option Nat} {op : EOp} {rest : List (EOper × Bool)} (hg : s g = .bool t) (ht : (t == b) = false) (h : wdr P γ Q rest (putA s d (.tup [])) H) : wdr P γ Q (({ dst := d, op := op, guard := some (g, b) }, c) :: rest) s H := by
  refine ⟨.tup [], H, .inl ⟨t, hg, fun e => ?_, fun _ => ⟨rfl, rfl⟩⟩, fun _ => rfl, h⟩
  subst e
  simp at ht

theorem wops_gone {g : Nat} {b : Bool} {d : Option Nat} {op : EOp} {rest : List EOper} (hg : s g = .tup []) (h : wops P γ Q rest (putA s d (.tup [])) H) : wops P γ Q ({ dst := d, op := op, guard := some (g, b) } :: rest) s H := by
  simp only [wops]
  rw [hg]
  exact h
theorem wdr_gone {g : Nat} {b c : Bool} {d : Option Nat} {op : EOp} {rest : List (EOper × Bool)} (hg : s g = .tup []) (h : wdr P γ Q rest (putA s d (.tup [])) H) : wdr P γ Q (({ dst := d, op := op, guard := some (g, b) }, c) :: rest) s H :=
  ⟨.tup [], H, .inr ⟨hg, rfl, rfl⟩, fun _ => rfl, h⟩

def gate : Bool → Prop → Prop → Prop
  | true, a, _ => a
  | false, _, b => b

theorem gate_tt {a b : Prop} (h : a) : gate (true == true) a b := h
theorem gate_ff {a b : Prop} (h : a) : gate (false == false) a b := h
theorem gate_tf {a b : Prop} (h : b) : gate (true == false) a b := h
theorem gate_ft {a b : Prop} (h : b) : gate (false == true) a b := h
theorem gate_t {a b : Prop} (h : a) : gate true a b := h
theorem gate_f {a b : Prop} (h : b) : gate false a b := h
theorem lit_t : EV.bool true = EV.bool true := rfl
theorem lit_f : EV.bool false = EV.bool false := rfl
theorem keep_same {c : Bool} : c = false → H = H := fun _ => rfl
theorem keep_rfl {c : Bool} {A B : Heap} (h : A = B) : c = false → A = B := fun _ => h
theorem keep_true {p : Prop} : true = false → p := fun h => Bool.noConfusion h

theorem wpc_test {c : EOpd} {a b : EC} {t : Bool} (hc : ev γ s c = .bool t) (h : gate t (wpc P γ a Q s H) (wpc P γ b Q s H)) : wpc P γ (.cond c a b) Q s H :=
  wpc_cond hc (fun e => by subst e; exact h) (fun e => by subst e; exact h)
theorem wops_guard {g : Nat} {t b : Bool} {d : Option Nat} {op : EOp} {rest : List EOper} (hg : s g = .bool t) (h : gate (t == b) (wops P γ Q ({ dst := d, op := op } :: rest) s H) (wops P γ Q rest (putA s d (.tup [])) H)) :
    wops P γ Q ({ dst := d, op := op, guard := some (g, b) } :: rest) s H := by
  cases t <;> cases b
  · exact wops_unguard hg h
  · exact wops_leave hg rfl h
  · exact wops_leave hg rfl h
  · exact wops_unguard hg h
theorem wdr_guard {g : Nat} {t b c : Bool} {d : Option Nat} {op : EOp} {rest : List (EOper × Bool)} (hg : s g = .bool t) (h : gate (t == b) (wdr P γ Q (({ dst := d, op := op }, c) :: rest) s H) (wdr P γ Q rest (putA s d (.tup [])) H)) :
    wdr P γ Q (({ dst := d, op := op, guard := some (g, b) }, c) :: rest) s H := by
  cases t <;> cases b
  · exact wdr_unguard hg h
  · exact wdr_leave hg rfl h
  · exact wdr_leave hg rfl h
  · exact wdr_unguard hg h

/-- A loop by its states: 'J' those that may be, 'μ' what falls, 'S' the slots, 'Hp' the heap. -/
theorem wpc_while {ι : Type} (J : ι → Prop) (μ : ι → Nat) (S : ι → List (Nat × EV)) (Hp : ι → Heap) (i0 : ι) (hJ : J i0) (hl : slotsAre s H.length (S i0)) (hH : H = Hp i0)
    (hok : ∀ i, J i → OkH (Hp i)) (hlen : ∀ j, J j → H.length ≤ (Hp j).length)
    (h : ∀ i, J i → ∀ (K : Slots → Heap → Prop) (Q' : AX → Slots → Heap → Prop), (∀ j s1 H1 G, J j → μ j < μ i → H1 = Hp j ++ G → slotsAre s1 (Hp j).length (S j) → K s1 H1) → (∀ x s1 H1, Q x s1 H1 → Q' x s1 H1) →
      wpc P γ c (thenA K Q') (mkS (S i)) (Hp i)) :
    wpc P γ (.loop c) Q s H := by
  refine wpc_loop' (fun m s H => ∃ i, J i ∧ m = μ i ∧ s = mkS (S i) ∧ H = Hp i) (μ i0) (S i0) hl ⟨i0, hJ, rfl, rfl, hH⟩ ?_
  rintro m s' H' ⟨i, hi, rfl, rfl, rfl⟩ K Q' hK hQ'
  refine h i hi K Q' (fun j s1 H1 G hj hlt e hs => hK _ _ ?_) hQ'
  subst e
  exact round_drop (μ j) (S j) hlt (hlen j hj) (hok j hj) hs ⟨j, hj, rfl, rfl, rfl⟩
end
end Abs
