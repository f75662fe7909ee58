/- A part. -/
import Derived.Test.YtddgppmcbjjliaaGreatDoorDen3D
set_option linter.all false
namespace Abs
open Go
section
variable {E : Env} {s : aa6} {H : Heap} {Q : QT}
theorem cv9 {r : Nat → Res} {r' : Res} {K : Nat → EV → Bool} {K' : EV → Bool} (hr : ∀ q, r' = some q → ∃ n, r n = some q) (mr : ∀ n m, n ≤ m → ∀ q, r n = some q → r m = some q) (hk : ∀ v, K' v = true → ∃ n, K n v = true) (mk : ∀ n m, n ≤ m → ∀ v, K n v = true → K m v = true)
  (h : aw2 H r' K' = true) : ∃ n, aw2 H (r n) (K n) = true := by
 unfold aw2 at h
 split at h
 ·rename_i v H'
  simp only [Bool.and_eq_true] at h
  obtain ⟨n, hn⟩ := hr _ rfl
  obtain ⟨m, hm⟩ := hk v h.2
  refine ⟨max n m, ?_⟩
  rw [mr n _ (Nat.le_max_left n m) _ hn]
  simp only [aw2, Bool.and_eq_true]
  exact ⟨h.1, mk m _ (Nat.le_max_right n m) _ hm⟩
 ·simp at h
theorem cj4 : ∀ (l : List GO) (bs : List Bool) (s : aa6) (H : Heap), aq3 (den E) E.γ l bs s H = true → ∃ n, aq3 (runF E n) E.γ l bs s H = true
 | [], _, _, _, _ => ⟨0, rfl⟩
 | g :: l, bs, s, H, h => by
  have ih := cj4 l
  have up : ∀ n m, n ≤ m → ∀ bs s H, aq3 (runF E n) E.γ l bs s H = true → aq3 (runF E m) E.γ l bs s H = true := fun n m hnm bs s H h => bl1 (bb8 hnm) _ _ _ _ h
  have one : ∀ {K : Nat → EV → Bool} {K' : EV → Bool}, (∀ v, K' v = true → ∃ n, K n v = true) → (∀ n m, n ≤ m → ∀ v, K n v = true → K m v = true) → aw2 H (opF (den E) (ev E.γ s) H g.o.op) K' = true → ∃ n, aw2 H (opF (runF E n) (ev E.γ s) H g.o.op) (K n) = true := fun hk mk h =>
   cv9 (fun q hq => bk4 hq) (fun n m hnm q hq => cg6 hnm q hq) hk mk h
  unfold aq3 at h
  by_cases hb : bs.headD true = true
  ·rw [if_pos hb] at h
   obtain ⟨n, hn⟩ := ih _ _ _ h
   exact ⟨n, by unfold aq3; rw [if_pos hb]; exact hn⟩
  ·rw [if_neg hb] at h
   simp only [Bool.and_eq_true] at h
   have h2 := h.2
   cases hg : g.o.guard with
   | none =>
    rw [hg] at h2
    obtain ⟨n, hn⟩ := one (K := fun n v => aq3 (runF E n) E.γ l bs.tail (putA s g.o.dst v) H) (fun v hv => ih _ _ _ hv) (fun n m hnm v hv => up n m hnm _ _ _ hv) h2
    exact ⟨n, by unfold aq3; rw [if_neg hb, hg]; simp only [Bool.and_eq_true]; exact ⟨h.1, hn⟩⟩
   | some p =>
    obtain ⟨d, b⟩ := p
    rw [hg] at h2
    simp only at h2
    unfold df5 at h2
    split at h2
    ·rename_i t ht
     split at h2
     ·rename_i e
      obtain ⟨n, hn⟩ := one (K := fun n v => aq3 (runF E n) E.γ l bs.tail (putA s g.o.dst v) H) (fun v hv => ih _ _ _ hv) (fun n m hnm v hv => up n m hnm _ _ _ hv) h2
      exact ⟨n, by unfold aq3; rw [if_neg hb, hg]; simp only [Bool.and_eq_true, df5, ht, if_pos e]; exact ⟨h.1, hn⟩⟩
     ·rename_i e
      obtain ⟨n, hn⟩ := ih _ _ _ h2
      exact ⟨n, by unfold aq3; rw [if_neg hb, hg]; simp only [Bool.and_eq_true, df5, ht, if_neg e]; exact ⟨h.1, hn⟩⟩
    ·rename_i ht
     obtain ⟨n, hn⟩ := ih _ _ _ h2
     exact ⟨n, by unfold aq3; rw [if_neg hb, hg]; simp only [Bool.and_eq_true, df5, ht]; exact ⟨h.1, hn⟩⟩
    ·simp at h2
theorem cl0 {g : GO} {r : Nat → Res} {r' : Res} {K p : Nat → EV → Heap → Option Xsh} {K' p' : EV → Heap → Option Xsh} {x : Xsh} (hr : ∀ q, r' = some q → ∃ n, r n = some q) (mr : ∀ n m, n ≤ m → ∀ q, r n = some q → r m = some q) (hk : ∀ v H y, K' v H = some y → ∃ n, K n v H = some y) (mk : ∀ n m, n ≤ m → ∀ v H y, K n v H = some y → K m v H = some y)
  (hp : ∀ v H y, p' v H = some y → ∃ n, p n v H = some y) (mp : ∀ n m, n ≤ m → ∀ v H y, p n v H = some y → p m v H = some y) (h : bb3 g H r' K' p' = some x) : ∃ n, bb3 g H (r n) (K n) (p n) = some x := by
 unfold bb3 at h
 split at h
 ·rename_i v H'
  split at h
  ·rename_i e
   obtain ⟨n, hn⟩ := hr _ rfl
   obtain ⟨m, hm⟩ := hk _ _ _ h
   refine ⟨max n m, ?_⟩
   rw [mr n _ (Nat.le_max_left n m) _ hn]
   simp only [bb3, if_pos e]
   exact mk m _ (Nat.le_max_right n m) _ _ _ hm
  ·simp at h
 ·rename_i v H'
  obtain ⟨n, hn⟩ := hr _ rfl
  obtain ⟨m, hm⟩ := hp _ _ _ h
  refine ⟨max n m, ?_⟩
  rw [mr n _ (Nat.le_max_left n m) _ hn]
  exact mp m _ (Nat.le_max_right n m) _ _ _ hm
 ·simp at h
theorem dm3 {ds : List Nat} : ∀ (l : List GO) (s : aa6) (H : Heap) (r : Xsh), drG (den E) E.γ ds l s H = some r → ∃ n, drG (runF E n) E.γ ds l s H = some r
 | [], _, _, _, h => ⟨0, h⟩
 | g :: l, s, H, r, h => by
  have ih := dm3 (ds := ds) l
  have up : ∀ n m, n ≤ m → ∀ s H y, drG (runF E n) E.γ ds l s H = some y → drG (runF E m) E.γ ds l s H = some y := fun n m hnm s H y h => bw7 (bb8 hnm) _ _ _ _ h
  have kc : ∀ v H' y, (if g.us.all (ah4 (putA s g.o.dst v) H') then drG (den E) E.γ ds l (putA s g.o.dst v) H' else none) = some y → ∃ n, (if g.us.all (ah4 (putA s g.o.dst v) H') then drG (runF E n) E.γ ds l (putA s g.o.dst v) H' else none) = some y := fun v H' y h => by
   split at h
   ·rename_i e
    obtain ⟨n, hn⟩ := ih _ _ _ h
    exact ⟨n, by rw [if_pos e]; exact hn⟩
   ·simp at h
  have ku : ∀ n m, n ≤ m → ∀ v H' y, (if g.us.all (ah4 (putA s g.o.dst v) H') then drG (runF E n) E.γ ds l (putA s g.o.dst v) H' else none) = some y → (if g.us.all (ah4 (putA s g.o.dst v) H') then drG (runF E m) E.γ ds l (putA s g.o.dst v) H' else none) = some y := fun n m hnm v H' y h => by
   split at h
   ·rename_i e; rw [if_pos e]; exact up n m hnm _ _ _ h
   ·simp at h
  unfold drG at h
  cases hg : g.o.guard with
  | none =>
   rw [hg] at h
   obtain ⟨n, hn⟩ := cl0 (fun q hq => bk4 hq) (fun n m hnm q hq => cg6 hnm q hq) kc ku
    (p := fun n v H' => if g.chg && bv8 g.o.op && aq3 (runF E n) E.γ l g.beh s H then some (.panic v, forget ds s, H') else none) (fun v H' y h => by
     split at h
     ·rename_i e
      simp only [Bool.and_eq_true] at e
      obtain ⟨n, hn⟩ := cj4 _ _ _ _ e.2
      exact ⟨n, by rw [if_pos (by simp only [Bool.and_eq_true]; exact ⟨e.1, hn⟩)]; exact h⟩
     ·simp at h) (fun n m hnm v H' y h => by
     split at h
     ·rename_i e
      simp only [Bool.and_eq_true] at e
      rw [if_pos (by simp only [Bool.and_eq_true]; exact ⟨e.1, bl1 (bb8 hnm) _ _ _ _ e.2⟩)]
      exact h
     ·simp at h) h
   exact ⟨n, by unfold drG; rw [hg]; exact hn⟩
  | some p =>
   obtain ⟨d, b⟩ := p
   rw [hg] at h
   simp only at h
   obtain ⟨n, hn⟩ := by9 (a := fun n => bb3 g H (opF (runF E n) (ev E.γ s) H g.o.op) (fun v H' => if g.us.all (ah4 (putA s g.o.dst v) H') then drG (runF E n) E.γ ds l (putA s g.o.dst v) H' else none) fun _ _ => none)
    (b := fun n => if g.us.all (ah4 (putA s g.o.dst (.tup [])) H) then drG (runF E n) E.γ ds l (putA s g.o.dst (.tup [])) H else none)
    (fun y hy => cl0 (p := fun _ _ _ => none) (fun q hq => bk4 hq) (fun n m hnm q hq => cg6 hnm q hq) kc ku (fun v H' y h => by simp at h) (fun n m hnm v H' y h => by simp at h) hy) (fun y hy => kc _ _ _ hy) h
   exact ⟨n, by unfold drG; rw [hg]; exact hn⟩
theorem du5 {gs : List GO} {ds : List Nat} : denC E (.drawG gs ds) s H = drG (den E) E.γ ds gs s H := by
 refine bn0 fun r => ⟨fun h => ?_, fun h => ?_⟩
 ·obtain ⟨n, hn⟩ := ae2.1 h
  cases n with
  | zero => simp [ae6] at hn
  | succ n => exact bw7 cp5 _ _ _ _ hn
 ·obtain ⟨n, hn⟩ := dm3 _ _ _ _ h
  refine ae2.2 ⟨n + 1, ?_⟩
  exact bw7 (bb8 (Nat.le_succ n)) _ _ _ _ hn
/-! ### The head's rules -/
def HDG (E : Env) (ds : List Nat) [l : Kt (List GO)] [s : Kt aa6] [H : Kt Heap] [Q : Kt QT] : Prop := ∃ x s' H', drG (den E) E.γ ds l.k s.k H.k = some (x, s', H') ∧ Q.k x s' H'
def HSG (chg : Bool) (H : Heap) (r : Res) [K : Kt KT] [p : Kt KT] : Prop :=
 match r with
 | some (.ret v, H') => (chg || ce9 H' H) = true ∧ K.k v H'
 | some (.pan v, H') => p.k v H'
 | none => False
@[congr] theorem fl7 {c : Bool} {r r' : Res} {K p : Kt KT} (h : r = r') : @HSG c H r K p = @HSG c H r' K p := by rw [h]
theorem ew6 {gs : List GO} {ds : List Nat} : @Hd E ⟨.drawG gs ds⟩ ⟨s⟩ ⟨H⟩ ⟨Q⟩ = @HDG E ds ⟨gs⟩ ⟨s⟩ ⟨H⟩ ⟨Q⟩ := by unfold Hd HDG; simp only [du5]
theorem fg5 {ds : List Nat} : @HDG E ds ⟨[]⟩ ⟨s⟩ ⟨H⟩ ⟨Q⟩ = Q .normal s H := propext ⟨fun ⟨x, s', H', h, hq⟩ => by cases h; exact hq, fun h => ⟨_, _, _, rfl, h⟩⟩
theorem cu5 {g : GO} {r : Res} {K p : EV → Heap → Option Xsh} : (∃ x s' H', bb3 g H r K p = some (x, s', H') ∧ Q x s' H') = @HSG g.chg H r ⟨fun v H' => ∃ x s1 H1, K v H' = some (x, s1, H1) ∧ Q x s1 H1⟩ ⟨fun v H' => ∃ x s1 H1, p v H' = some (x, s1, H1) ∧ Q x s1 H1⟩ := by
 unfold bb3 HSG
 cases r with
 | none => simp
 | some y =>
  obtain ⟨y, H1⟩ := y
  cases y with
  | ret v =>
   simp only
   split
   ·rename_i e; simp [e]
   ·rename_i e; simp [e]
  | pan v => rfl
theorem et5 {c : Prop} [Decidable c] {y : Option Xsh} : (∃ x s' H', (if c then y else none) = some (x, s', H') ∧ Q x s' H') = (c ∧ ∃ x s' H', y = some (x, s', H') ∧ Q x s' H') := by
 by_cases h : c
 ·simp [h]
 ·simp [h]
theorem en2 {c : Bool} {r : Res} {K K' p p' : KT} (h1 : ∀ v H', K v H' = K' v H') (h2 : ∀ v H', p v H' = p' v H') : @HSG c H r ⟨K⟩ ⟨p⟩ = @HSG c H r ⟨K'⟩ ⟨p'⟩ := by
 rw [show K = K' from funext fun v => funext fun H' => h1 v H', show p = p' from funext fun v => funext fun H' => h2 v H']
theorem fm0 {v : EV} {t : Bool} {a a' b b' : Prop} (h1 : a = a') (h2 : b = b') : @HG v t ⟨fun _ => a⟩ ⟨fun _ => b⟩ = @HG v t ⟨fun _ => a'⟩ ⟨fun _ => b'⟩ := by rw [h1, h2]
theorem ex4 {ds : List Nat} {d : Option Nat} {op : EOp} {chg : Bool} {us : List RC} {beh : List Bool} {l : List GO} : @HDG E ds ⟨⟨⟨d, op, none⟩, chg, us, beh⟩ :: l⟩ ⟨s⟩ ⟨H⟩ ⟨Q⟩ =
  @HSG chg H (opD E (ev E.γ s) H op) ⟨fun v H' => us.all (ah4 (putA s d v) H') = true ∧ @HDG E ds ⟨l⟩ ⟨putA s d v⟩ ⟨H'⟩ ⟨Q⟩⟩
   ⟨fun v H' => (chg && bv8 op && aq3 (den E) E.γ l beh s H) = true ∧ Q (.panic v) (forget ds s) H'⟩ := by
 unfold HDG opD
 simp only [drG]
 rw [cu5]
 exact en2 (fun v H' => et5) fun v H' => by
  rw [et5]
  congr 1
  exact propext ⟨fun ⟨x, s', H', h, hq⟩ => by cases h; exact hq, fun h => ⟨_, _, _, rfl, h⟩⟩
theorem en3 {ds : List Nat} {d : Option Nat} {op : EOp} {g : Nat} {b chg : Bool} {us : List RC} {beh : List Bool} {l : List GO} : @HDG E ds ⟨⟨⟨d, op, some (g, b)⟩, chg, us, beh⟩ :: l⟩ ⟨s⟩ ⟨H⟩ ⟨Q⟩ =
  @HG (s g) b ⟨fun _ => @HSG chg H (opD E (ev E.γ s) H op) ⟨fun v H' => us.all (ah4 (putA s d v) H') = true ∧ @HDG E ds ⟨l⟩ ⟨putA s d v⟩ ⟨H'⟩ ⟨Q⟩⟩ ⟨fun _ _ => False⟩⟩
   ⟨fun _ => us.all (ah4 (putA s d (.tup [])) H) = true ∧ @HDG E ds ⟨l⟩ ⟨putA s d (.tup [])⟩ ⟨H⟩ ⟨Q⟩⟩ := by
 unfold HDG opD
 simp only [drG]
 rw [df4]
 exact fm0 (by rw [cu5]; exact en2 (fun v H' => et5) fun v H' => by simp) et5
theorem ew8 {v : EV} {H' : Heap} {K p : KT} : @HSG true H (some (.ret v, H')) ⟨K⟩ ⟨p⟩ = K v H' := by simp [HSG]
theorem ew9 {c : Bool} {v : EV} {K p : KT} : @HSG c H (some (.ret v, H)) ⟨K⟩ ⟨p⟩ = K v H := by simp [HSG, bg9]
theorem fg1 {c : Bool} {v : EV} {H' : Heap} {K p : KT} : @HSG c H (some (.pan v, H')) ⟨K⟩ ⟨p⟩ = p v H' := rfl
attribute [go_sem ↓] ew6 fg5 ex4 en3
attribute [go_sem] ew8 ew9 fg1
end
theorem ei1 {c : Bool} {t : TypeId} {v : EV} : br0 c .ifc (.iface t v) .nilif = some false := rfl
theorem dt9 {c : Bool} {t : TypeId} {v : EV} : br0 c .ifc .nilif (.iface t v) = some false := rfl
theorem du0 {x : EOpd} : br0 (x.isC || (EOpd.c .nilif).isC) .ifc .nilif .nilif = some true := by rw [show (x.isC || (EOpd.c .nilif).isC) = true from by cases x.isC <;> rfl]; rfl
theorem eh9 {c : Bool} {x y : EV} : br0 c .sl x y = cy9 .sl x y := rfl
theorem ei0 {c : Bool} {x y : EV} : br0 c .pt x y = cy9 .pt x y := rfl
theorem ei2 {c : Bool} {x y : EV} : br0 c .mp x y = cy9 .mp x y := rfl
theorem ei3 {c : Bool} {x y : EV} : br0 c .fn x y = cy9 .fn x y := rfl
theorem eh5 {t : TypeId} {z v : EV} : cy8 t true z (.iface t v) = some (.tup [v, .bool true]) := by simp [cy8]
theorem eh7 {t : TypeId} {z v : EV} : cy8 t false z (.iface t v) = some v := by simp [cy8]
theorem eh6 {t : TypeId} {z : EV} : cy8 t true z .nilif = some (.tup [z, .bool false]) := rfl
theorem dg4 {H : Heap} : bo6 .nilsl H = some (.str []) := rfl
theorem dg3 {H : Heap} : bo6 .zsl H = some (.str []) := rfl
theorem ej4 : ej5 .nilsl = some 0 := rfl
theorem ej3 : ej5 .zsl = some 0 := rfl
theorem ei5 : bd7 false .zsl = some 0 := rfl
theorem de8 {α β : Type} {f : α → β} {x : α} : Option.map f (some x) = some (f x) := rfl
theorem do1 {E : Env} {s : aa6} {H : Heap} {Q : QT} {c : EC} (h : @Hd E ⟨c⟩ ⟨s⟩ ⟨H⟩ ⟨az1 (fun s' H' => @Hd E ⟨.loop c⟩ ⟨s'⟩ ⟨H'⟩ ⟨Q⟩) Q⟩) : @Hd E ⟨.loop c⟩ ⟨s⟩ ⟨H⟩ ⟨Q⟩ := by
 obtain ⟨x, s', H', h1, h2⟩ := h
 simp only at h1 h2
 show ∃ x s' H', denC E (.loop c) s H = some (x, s', H') ∧ Q x s' H'
 rw [cz8, h1]
 cases x with
 | normal => exact h2
 | _ => exact ⟨_, _, _, rfl, h2⟩
theorem en1 {E : Env} {s : aa6} {H : Heap} {Q : QT} {a b : EC} (R : aa6 → Heap → Prop) (h1 : @Hd E ⟨a⟩ ⟨s⟩ ⟨H⟩ ⟨fun x s' H' => x = .normal ∧ R s' H'⟩) (h2 : ∀ s' H', R s' H' → @Hd E ⟨b⟩ ⟨s'⟩ ⟨H'⟩ ⟨Q⟩) : @Hd E ⟨.seq a b⟩ ⟨s⟩ ⟨H⟩ ⟨Q⟩ := by
 rw [db2]
 obtain ⟨x, s', H', h, e, hr⟩ := h1
 subst e
 exact ⟨.normal, s', H', h, h2 s' H' hr⟩
theorem an8 {E : Env} {s : aa6} {H : Heap} {Q : QT} {a b : EC} (R : aa6 → Heap → Prop) (h1 : @Hd E ⟨a⟩ ⟨s⟩ ⟨H⟩ ⟨az1 R Q⟩) (h2 : ∀ s' H', R s' H' → @Hd E ⟨b⟩ ⟨s'⟩ ⟨H'⟩ ⟨Q⟩) : @Hd E ⟨.seq a b⟩ ⟨s⟩ ⟨H⟩ ⟨Q⟩ := by
 rw [db2]
 obtain ⟨x, s', H', h, hr⟩ := h1
 refine ⟨x, s', H', h, ?_⟩
 cases x with
 | normal => exact h2 _ _ hr
 | _ => exact hr
theorem eg9 {H H1 : Heap} {v : EV} {K : EV → ER} {r : ER} (hv : v.ok H.length = true) (hl : H1.length = H.length) (e : K v = r) : finV H v K H1 = some (r, H1) := by
 unfold finV
 rw [de6 hv, bz0 hv, ← e, ← hl, List.take_length]
 simp
def dt6 (H : Heap) (rs : List ERes) (P : ER × Heap → Prop) (x : AX) (s : aa6) (H' : Heap) : Prop := ∃ r, finF H rs (some (x, s, H')) = some r ∧ P r
def df8 (H : Heap) (P : ER × Heap → Prop) (v : Option EV) (H' : Heap) : Prop :=
 match v with
 | some v => ∃ r, finV H v .ret H' = some r ∧ P r
 | none => False
theorem eu5 {H : Heap} {rs : List ERes} {P : ER × Heap → Prop} {s : aa6} {H' : Heap} : dt6 H rs P .ret s H' = df8 H P (ab1 s H' rs) H' := by
 unfold dt6 df8 finF; cases h : ab1 s H' rs <;> simp [h]
theorem eg6 {H : Heap} {rs : List ERes} {P : ER × Heap → Prop} {s : aa6} {H' : Heap} : dt6 H rs P .normal s H' = df8 H P (ab1 s H' rs) H' := by
 unfold dt6 df8 finF; cases h : ab1 s H' rs <;> simp [h]
theorem eu6 {H : Heap} {rs : List ERes} {P : ER × Heap → Prop} {v : EV} {s : aa6} {H' : Heap} : dt6 H rs P (.panic v) s H' = ∃ r, finV H v .pan H' = some r ∧ P r := rfl
theorem dt4 {H : Heap} {P : ER × Heap → Prop} {v : EV} {H' : Heap} : df8 H P (some v) H' = ∃ r, finV H v .ret H' = some r ∧ P r := rfl
@[congr] theorem fe2 {H : Heap} {P : ER × Heap → Prop} {v v' : Option EV} {H' : Heap} (h : v = v') : df8 H P v H' = df8 H P v' H' := by rw [h]
theorem fk4 {E : Env} {H : Heap} {f : FuncId} {ec : EC} {rs : List ERes} {nt : Nat} (hT : Def E f ec rs nt) {as : List EV} {P : ER × Heap → Prop} (hl : as.length ≤ nt) (h : @Hd E ⟨ec⟩ ⟨aj3 as⟩ ⟨H⟩ ⟨dt6 H rs P⟩) : ∃ r, den E f as H = some r ∧ P r := by
 rw [ek3 hT.T (hT.Ψ as H) hT.K hl]
 obtain ⟨x, s', H', h1, r, h2, h3⟩ := h
 simp only at h1
 rw [h1]
 exact ⟨r, h2, h3⟩
attribute [go_sem ↓] eu5 eg6 eu6
attribute [go_sem] dt4
attribute [go_sem] ei1 dt9 du0 eh9 ei0 ei2 ei3 eh5 eh7 eh6 dg4 dg3 ej4 ej3 ei5 de8
end Abs
