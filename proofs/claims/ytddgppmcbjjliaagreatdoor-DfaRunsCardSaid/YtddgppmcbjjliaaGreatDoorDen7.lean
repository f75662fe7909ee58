/- A part. -/
import Derived.Test.YtddgppmcbjjliaaGreatDoorDen3D
set_option linter.all false
namespace Abs
open Go
section
variable {E : Env} {s : Slots} {H : Heap} {Q : QT}
theorem retSame_cont {r : Nat → Res} {r' : Res} {K : Nat → EV → Bool} {K' : EV → Bool} (hr : ∀ q, r' = some q → ∃ n, r n = some q) (mr : ∀ n m, n ≤ m → ∀ q, r n = some q → r m = some q) (hk : ∀ v, K' v = true → ∃ n, K n v = true) (mk : ∀ n m, n ≤ m → ∀ v, K n v = true → K m v = true)
  (h : retSame H r' K' = true) : ∃ n, retSame H (r n) (K n) = true := by
 unfold retSame at h
 split at h
 ·rename_i v H'
  simp only [Bool.and_eq_true] at h
  obtain ⟨n, hn⟩ := hr _ rfl
  obtain ⟨m, hm⟩ := hk v h.2
  refine ⟨max n m, ?_⟩
  rw [mr n _ (Nat.le_max_left n m) _ hn]
  simp only [retSame, Bool.and_eq_true]
  exact ⟨h.1, mk m _ (Nat.le_max_right n m) _ hm⟩
 ·simp at h
theorem aloneF_cont : ∀ (l : List GO) (bs : List Bool) (s : Slots) (H : Heap), aloneF (den E) E.γ l bs s H = true → ∃ n, aloneF (runF E n) E.γ l bs s H = true
 | [], _, _, _, _ => ⟨0, rfl⟩
 | g :: l, bs, s, H, h => by
  have ih := aloneF_cont l
  have up : ∀ n m, n ≤ m → ∀ bs s H, aloneF (runF E n) E.γ l bs s H = true → aloneF (runF E m) E.γ l bs s H = true := fun n m hnm bs s H h => aloneF_mono (runF_up hnm) _ _ _ _ h
  have one : ∀ {K : Nat → EV → Bool} {K' : EV → Bool}, (∀ v, K' v = true → ∃ n, K n v = true) → (∀ n m, n ≤ m → ∀ v, K n v = true → K m v = true) → retSame H (opF (den E) (ev E.γ s) H g.o.op) K' = true → ∃ n, retSame H (opF (runF E n) (ev E.γ s) H g.o.op) (K n) = true := fun hk mk h =>
   retSame_cont (fun q hq => opF_cont hq) (fun n m hnm q hq => opF_up hnm q hq) hk mk h
  unfold aloneF at h
  by_cases hb : bs.headD true = true
  ·rw [if_pos hb] at h
   obtain ⟨n, hn⟩ := ih _ _ _ h
   exact ⟨n, by unfold aloneF; rw [if_pos hb]; exact hn⟩
  ·rw [if_neg hb] at h
   simp only [Bool.and_eq_true] at h
   have h2 := h.2
   cases hg : g.o.guard with
   | none =>
    rw [hg] at h2
    obtain ⟨n, hn⟩ := one (K := fun n v => aloneF (runF E n) E.γ l bs.tail (putA s g.o.dst v) H) (fun v hv => ih _ _ _ hv) (fun n m hnm v hv => up n m hnm _ _ _ hv) h2
    exact ⟨n, by unfold aloneF; rw [if_neg hb, hg]; simp only [Bool.and_eq_true]; exact ⟨h.1, hn⟩⟩
   | some p =>
    obtain ⟨d, b⟩ := p
    rw [hg] at h2
    simp only at h2
    unfold gateB at h2
    split at h2
    ·rename_i t ht
     split at h2
     ·rename_i e
      obtain ⟨n, hn⟩ := one (K := fun n v => aloneF (runF E n) E.γ l bs.tail (putA s g.o.dst v) H) (fun v hv => ih _ _ _ hv) (fun n m hnm v hv => up n m hnm _ _ _ hv) h2
      exact ⟨n, by unfold aloneF; rw [if_neg hb, hg]; simp only [Bool.and_eq_true, gateB, ht, if_pos e]; exact ⟨h.1, hn⟩⟩
     ·rename_i e
      obtain ⟨n, hn⟩ := ih _ _ _ h2
      exact ⟨n, by unfold aloneF; rw [if_neg hb, hg]; simp only [Bool.and_eq_true, gateB, ht, if_neg e]; exact ⟨h.1, hn⟩⟩
    ·rename_i ht
     obtain ⟨n, hn⟩ := ih _ _ _ h2
     exact ⟨n, by unfold aloneF; rw [if_neg hb, hg]; simp only [Bool.and_eq_true, gateB, ht]; exact ⟨h.1, hn⟩⟩
    ·simp at h2
theorem stepG_cont {g : GO} {r : Nat → Res} {r' : Res} {K p : Nat → EV → Heap → Option Xsh} {K' p' : EV → Heap → Option Xsh} {x : Xsh} (hr : ∀ q, r' = some q → ∃ n, r n = some q) (mr : ∀ n m, n ≤ m → ∀ q, r n = some q → r m = some q) (hk : ∀ v H y, K' v H = some y → ∃ n, K n v H = some y) (mk : ∀ n m, n ≤ m → ∀ v H y, K n v H = some y → K m v H = some y)
  (hp : ∀ v H y, p' v H = some y → ∃ n, p n v H = some y) (mp : ∀ n m, n ≤ m → ∀ v H y, p n v H = some y → p m v H = some y) (h : stepG' g H r' K' p' = some x) : ∃ n, stepG' g H (r n) (K n) (p n) = some x := by
 unfold stepG' at h
 split at h
 ·rename_i v H'
  split at h
  ·rename_i e
   obtain ⟨n, hn⟩ := hr _ rfl
   obtain ⟨m, hm⟩ := hk _ _ _ h
   refine ⟨max n m, ?_⟩
   rw [mr n _ (Nat.le_max_left n m) _ hn]
   simp only [stepG', if_pos e]
   exact mk m _ (Nat.le_max_right n m) _ _ _ hm
  ·simp at h
 ·rename_i v H'
  obtain ⟨n, hn⟩ := hr _ rfl
  obtain ⟨m, hm⟩ := hp _ _ _ h
  refine ⟨max n m, ?_⟩
  rw [mr n _ (Nat.le_max_left n m) _ hn]
  exact mp m _ (Nat.le_max_right n m) _ _ _ hm
 ·simp at h
theorem drG_cont {ds : List Nat} : ∀ (l : List GO) (s : Slots) (H : Heap) (r : Xsh), drG (den E) E.γ ds l s H = some r → ∃ n, drG (runF E n) E.γ ds l s H = some r
 | [], _, _, _, h => ⟨0, h⟩
 | g :: l, s, H, r, h => by
  have ih := drG_cont (ds := ds) l
  have up : ∀ n m, n ≤ m → ∀ s H y, drG (runF E n) E.γ ds l s H = some y → drG (runF E m) E.γ ds l s H = some y := fun n m hnm s H y h => drG_mono (runF_up hnm) _ _ _ _ h
  have kc : ∀ v H' y, (if g.us.all (loadAgain (putA s g.o.dst v) H') then drG (den E) E.γ ds l (putA s g.o.dst v) H' else none) = some y → ∃ n, (if g.us.all (loadAgain (putA s g.o.dst v) H') then drG (runF E n) E.γ ds l (putA s g.o.dst v) H' else none) = some y := fun v H' y h => by
   split at h
   ·rename_i e
    obtain ⟨n, hn⟩ := ih _ _ _ h
    exact ⟨n, by rw [if_pos e]; exact hn⟩
   ·simp at h
  have ku : ∀ n m, n ≤ m → ∀ v H' y, (if g.us.all (loadAgain (putA s g.o.dst v) H') then drG (runF E n) E.γ ds l (putA s g.o.dst v) H' else none) = some y → (if g.us.all (loadAgain (putA s g.o.dst v) H') then drG (runF E m) E.γ ds l (putA s g.o.dst v) H' else none) = some y := fun n m hnm v H' y h => by
   split at h
   ·rename_i e; rw [if_pos e]; exact up n m hnm _ _ _ h
   ·simp at h
  unfold drG at h
  cases hg : g.o.guard with
  | none =>
   rw [hg] at h
   obtain ⟨n, hn⟩ := stepG_cont (fun q hq => opF_cont hq) (fun n m hnm q hq => opF_up hnm q hq) kc ku
    (p := fun n v H' => if g.chg && isCallOp g.o.op && aloneF (runF E n) E.γ l g.beh s H then some (.panic v, forget ds s, H') else none) (fun v H' y h => by
     split at h
     ·rename_i e
      simp only [Bool.and_eq_true] at e
      obtain ⟨n, hn⟩ := aloneF_cont _ _ _ _ e.2
      exact ⟨n, by rw [if_pos (by simp only [Bool.and_eq_true]; exact ⟨e.1, hn⟩)]; exact h⟩
     ·simp at h) (fun n m hnm v H' y h => by
     split at h
     ·rename_i e
      simp only [Bool.and_eq_true] at e
      rw [if_pos (by simp only [Bool.and_eq_true]; exact ⟨e.1, aloneF_mono (runF_up hnm) _ _ _ _ e.2⟩)]
      exact h
     ·simp at h) h
   exact ⟨n, by unfold drG; rw [hg]; exact hn⟩
  | some p =>
   obtain ⟨d, b⟩ := p
   rw [hg] at h
   simp only at h
   obtain ⟨n, hn⟩ := gateO_cont (a := fun n => stepG' g H (opF (runF E n) (ev E.γ s) H g.o.op) (fun v H' => if g.us.all (loadAgain (putA s g.o.dst v) H') then drG (runF E n) E.γ ds l (putA s g.o.dst v) H' else none) fun _ _ => none)
    (b := fun n => if g.us.all (loadAgain (putA s g.o.dst (.tup [])) H) then drG (runF E n) E.γ ds l (putA s g.o.dst (.tup [])) H else none)
    (fun y hy => stepG_cont (p := fun _ _ _ => none) (fun q hq => opF_cont hq) (fun n m hnm q hq => opF_up hnm q hq) kc ku (fun v H' y h => by simp at h) (fun n m hnm v H' y h => by simp at h) hy) (fun y hy => kc _ _ _ hy) h
   exact ⟨n, by unfold drG; rw [hg]; exact hn⟩
theorem denC_drawG {gs : List GO} {ds : List Nat} : denC E (.drawG gs ds) s H = drG (den E) E.γ ds gs s H := by
 refine opt_ext fun r => ⟨fun h => ?_, fun h => ?_⟩
 ·obtain ⟨n, hn⟩ := denC_iff.1 h
  cases n with
  | zero => simp [codeF] at hn
  | succ n => exact drG_mono runF_den _ _ _ _ hn
 ·obtain ⟨n, hn⟩ := drG_cont _ _ _ _ h
  refine denC_iff.2 ⟨n + 1, ?_⟩
  exact drG_mono (runF_up (Nat.le_succ n)) _ _ _ _ hn
/-! ### The head's rules -/
def HDG (E : Env) (ds : List Nat) [l : Kt (List GO)] [s : Kt Slots] [H : Kt Heap] [Q : Kt QT] : Prop := ∃ x s' H', drG (den E) E.γ ds l.k s.k H.k = some (x, s', H') ∧ Q.k x s' H'
def HSG (chg : Bool) (H : Heap) (r : Res) [K : Kt KT] [p : Kt KT] : Prop :=
 match r with
 | some (.ret v, H') => (chg || sameH H' H) = true ∧ K.k v H'
 | some (.pan v, H') => p.k v H'
 | none => False
@[congr] theorem HSG_congr {c : Bool} {r r' : Res} {K p : Kt KT} (h : r = r') : @HSG c H r K p = @HSG c H r' K p := by rw [h]
theorem Hd_drawG {gs : List GO} {ds : List Nat} : @Hd E ⟨.drawG gs ds⟩ ⟨s⟩ ⟨H⟩ ⟨Q⟩ = @HDG E ds ⟨gs⟩ ⟨s⟩ ⟨H⟩ ⟨Q⟩ := by unfold Hd HDG; simp only [denC_drawG]
theorem HDG_nil {ds : List Nat} : @HDG E ds ⟨[]⟩ ⟨s⟩ ⟨H⟩ ⟨Q⟩ = Q .normal s H := propext ⟨fun ⟨x, s', H', h, hq⟩ => by cases h; exact hq, fun h => ⟨_, _, _, rfl, h⟩⟩
theorem stepG_HSG {g : GO} {r : Res} {K p : EV → Heap → Option Xsh} : (∃ x s' H', stepG' g H r K p = some (x, s', H') ∧ Q x s' H') = @HSG g.chg H r ⟨fun v H' => ∃ x s1 H1, K v H' = some (x, s1, H1) ∧ Q x s1 H1⟩ ⟨fun v H' => ∃ x s1 H1, p v H' = some (x, s1, H1) ∧ Q x s1 H1⟩ := by
 unfold stepG' HSG
 cases r with
 | none => simp
 | some y =>
  obtain ⟨y, H1⟩ := y
  cases y with
  | ret v =>
   simp only
   split
   ·rename_i e; simp [e]
   ·rename_i e; simp [e]
  | pan v => rfl
theorem if_ex {c : Prop} [Decidable c] {y : Option Xsh} : (∃ x s' H', (if c then y else none) = some (x, s', H') ∧ Q x s' H') = (c ∧ ∃ x s' H', y = some (x, s', H') ∧ Q x s' H') := by
 by_cases h : c
 ·simp [h]
 ·simp [h]
theorem HSG_ext {c : Bool} {r : Res} {K K' p p' : KT} (h1 : ∀ v H', K v H' = K' v H') (h2 : ∀ v H', p v H' = p' v H') : @HSG c H r ⟨K⟩ ⟨p⟩ = @HSG c H r ⟨K'⟩ ⟨p'⟩ := by
 rw [show K = K' from funext fun v => funext fun H' => h1 v H', show p = p' from funext fun v => funext fun H' => h2 v H']
theorem HG_ext {v : EV} {t : Bool} {a a' b b' : Prop} (h1 : a = a') (h2 : b = b') : @HG v t ⟨fun _ => a⟩ ⟨fun _ => b⟩ = @HG v t ⟨fun _ => a'⟩ ⟨fun _ => b'⟩ := by rw [h1, h2]
theorem HDG_cons {ds : List Nat} {d : Option Nat} {op : EOp} {chg : Bool} {us : List RC} {beh : List Bool} {l : List GO} : @HDG E ds ⟨⟨⟨d, op, none⟩, chg, us, beh⟩ :: l⟩ ⟨s⟩ ⟨H⟩ ⟨Q⟩ =
  @HSG chg H (opD E (ev E.γ s) H op) ⟨fun v H' => us.all (loadAgain (putA s d v) H') = true ∧ @HDG E ds ⟨l⟩ ⟨putA s d v⟩ ⟨H'⟩ ⟨Q⟩⟩
   ⟨fun v H' => (chg && isCallOp op && aloneF (den E) E.γ l beh s H) = true ∧ Q (.panic v) (forget ds s) H'⟩ := by
 unfold HDG opD
 simp only [drG]
 rw [stepG_HSG]
 exact HSG_ext (fun v H' => if_ex) fun v H' => by
  rw [if_ex]
  congr 1
  exact propext ⟨fun ⟨x, s', H', h, hq⟩ => by cases h; exact hq, fun h => ⟨_, _, _, rfl, h⟩⟩
theorem HDG_guard {ds : List Nat} {d : Option Nat} {op : EOp} {g : Nat} {b chg : Bool} {us : List RC} {beh : List Bool} {l : List GO} : @HDG E ds ⟨⟨⟨d, op, some (g, b)⟩, chg, us, beh⟩ :: l⟩ ⟨s⟩ ⟨H⟩ ⟨Q⟩ =
  @HG (s g) b ⟨fun _ => @HSG chg H (opD E (ev E.γ s) H op) ⟨fun v H' => us.all (loadAgain (putA s d v) H') = true ∧ @HDG E ds ⟨l⟩ ⟨putA s d v⟩ ⟨H'⟩ ⟨Q⟩⟩ ⟨fun _ _ => False⟩⟩
   ⟨fun _ => us.all (loadAgain (putA s d (.tup [])) H) = true ∧ @HDG E ds ⟨l⟩ ⟨putA s d (.tup [])⟩ ⟨H⟩ ⟨Q⟩⟩ := by
 unfold HDG opD
 simp only [drG]
 rw [gate_HG]
 exact HG_ext (by rw [stepG_HSG]; exact HSG_ext (fun v H' => if_ex) fun v H' => by simp) if_ex
theorem HSG_true {v : EV} {H' : Heap} {K p : KT} : @HSG true H (some (.ret v, H')) ⟨K⟩ ⟨p⟩ = K v H' := by simp [HSG]
theorem HSG_same {c : Bool} {v : EV} {K p : KT} : @HSG c H (some (.ret v, H)) ⟨K⟩ ⟨p⟩ = K v H := by simp [HSG, sameH_self]
theorem HSG_pan {c : Bool} {v : EV} {H' : Heap} {K p : KT} : @HSG c H (some (.pan v, H')) ⟨K⟩ ⟨p⟩ = p v H' := rfl
attribute [go_sem ↓] Hd_drawG HDG_nil HDG_cons HDG_guard
attribute [go_sem] HSG_true HSG_same HSG_pan
end
theorem evNilC_no {c : Bool} {t : TypeId} {v : EV} : evNilC c .ifc (.iface t v) .nilif = some false := rfl
theorem evNilC_no' {c : Bool} {t : TypeId} {v : EV} : evNilC c .ifc .nilif (.iface t v) = some false := rfl
theorem evNilC_lit {x : EOpd} : evNilC (x.isC || (EOpd.c .nilif).isC) .ifc .nilif .nilif = some true := by rw [show (x.isC || (EOpd.c .nilif).isC) = true from by cases x.isC <;> rfl]; rfl
theorem evNilC_sl {c : Bool} {x y : EV} : evNilC c .sl x y = evNil .sl x y := rfl
theorem evNilC_pt {c : Bool} {x y : EV} : evNilC c .pt x y = evNil .pt x y := rfl
theorem evNilC_mp {c : Bool} {x y : EV} : evNilC c .mp x y = evNil .mp x y := rfl
theorem evNilC_fn {c : Bool} {x y : EV} : evNilC c .fn x y = evNil .fn x y := rfl
theorem evTas_yes {t : TypeId} {z v : EV} : evTas t true z (.iface t v) = some (.tup [v, .bool true]) := by simp [evTas]
theorem evTas_get {t : TypeId} {z v : EV} : evTas t false z (.iface t v) = some v := by simp [evTas]
theorem evTas_nil {t : TypeId} {z : EV} : evTas t true z .nilif = some (.tup [z, .bool false]) := rfl
theorem evToStr_nil {H : Heap} : evToStr .nilsl H = some (.str []) := rfl
theorem evToStr_zsl {H : Heap} : evToStr .zsl H = some (.str []) := rfl
theorem evCap_nil : evCap .nilsl = some 0 := rfl
theorem evCap_zsl : evCap .zsl = some 0 := rfl
theorem evLen_zsl : evLen false .zsl = some 0 := rfl
theorem map_some_go {α β : Type} {f : α → β} {x : α} : Option.map f (some x) = some (f x) := rfl
theorem Hd_cut2 {E : Env} {s : Slots} {H : Heap} {Q : QT} {a b : EC} (R : Slots → Heap → Prop) (h1 : @Hd E ⟨a⟩ ⟨s⟩ ⟨H⟩ ⟨thenA R Q⟩) (h2 : ∀ s' H', R s' H' → @Hd E ⟨b⟩ ⟨s'⟩ ⟨H'⟩ ⟨Q⟩) : @Hd E ⟨.seq a b⟩ ⟨s⟩ ⟨H⟩ ⟨Q⟩ := by
 rw [Hd_seq]
 obtain ⟨x, s', H', h, hr⟩ := h1
 refine ⟨x, s', H', h, ?_⟩
 cases x with
 | normal => exact h2 _ _ hr
 | _ => exact hr
def finQx (H : Heap) (rs : List ERes) (P : ER × Heap → Prop) (x : AX) (s : Slots) (H' : Heap) : Prop := ∃ r, finF H rs (some (x, s, H')) = some r ∧ P r
def finRx (H : Heap) (P : ER × Heap → Prop) (v : Option EV) (H' : Heap) : Prop :=
 match v with
 | some v => ∃ r, finV H v .ret H' = some r ∧ P r
 | none => False
theorem finx_ret {H : Heap} {rs : List ERes} {P : ER × Heap → Prop} {s : Slots} {H' : Heap} : finQx H rs P .ret s H' = finRx H P (evResults s H' rs) H' := by
 unfold finQx finRx finF; cases h : evResults s H' rs <;> simp [h]
theorem finx_norm {H : Heap} {rs : List ERes} {P : ER × Heap → Prop} {s : Slots} {H' : Heap} : finQx H rs P .normal s H' = finRx H P (evResults s H' rs) H' := by
 unfold finQx finRx finF; cases h : evResults s H' rs <;> simp [h]
theorem finx_pan {H : Heap} {rs : List ERes} {P : ER × Heap → Prop} {v : EV} {s : Slots} {H' : Heap} : finQx H rs P (.panic v) s H' = ∃ r, finV H v .pan H' = some r ∧ P r := rfl
theorem finRx_some {H : Heap} {P : ER × Heap → Prop} {v : EV} {H' : Heap} : finRx H P (some v) H' = ∃ r, finV H v .ret H' = some r ∧ P r := rfl
@[congr] theorem finRx_congr {H : Heap} {P : ER × Heap → Prop} {v v' : Option EV} {H' : Heap} (h : v = v') : finRx H P v H' = finRx H P v' H' := by rw [h]
attribute [go_sem ↓] finx_ret finx_norm finx_pan
attribute [go_sem] finRx_some
attribute [go_sem] evNilC_no evNilC_no' evNilC_lit evNilC_sl evNilC_pt evNilC_mp evNilC_fn evTas_yes evTas_get evTas_nil evToStr_nil evToStr_zsl evCap_nil evCap_zsl evLen_zsl map_some_go
end Abs
