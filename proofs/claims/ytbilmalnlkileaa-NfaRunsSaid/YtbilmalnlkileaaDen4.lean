/- A run, head first: rules for rewriting. -/
import Derived.Test.YtbilmalnlkileaaDen3D
import Derived.Test.YtbilmalnlkileaaAbsNum
set_option linter.all false

namespace Abs
open Go
set_option linter.all false

/-- A wrapping: what stands in it is not looked into. -/
class Kt (α : Type) where
  k : α

abbrev QT := AX → Slots → Heap → Prop
abbrev KT := EV → Heap → Prop
abbrev NT := Slots → Heap → Prop
abbrev PT := Unit → Prop

section
variable (E : Env)

/-- The code comes to something of which Q holds. -/
def Hd [c : Kt EC] [s : Kt Slots] [H : Kt Heap] [Q : Kt QT] : Prop := ∃ x s' H', denC E c.k s.k H.k = some (x, s', H') ∧ Q.k x s' H'
def HO [l : Kt (List EOper)] [s : Kt Slots] [H : Kt Heap] [Q : Kt QT] : Prop := ∃ x s' H', denO E l.k s.k H.k = some (x, s', H') ∧ Q.k x s' H'
def HD [l : Kt (List (EOper × Bool))] [s : Kt Slots] [H : Kt Heap] [Q : Kt QT] : Prop := ∃ x s' H', denD E l.k s.k H.k = some (x, s', H') ∧ Q.k x s' H'

/-- Behind an operation. -/
def HS (r : Res) [Qp : Kt KT] [K : Kt KT] : Prop :=
  match r with
  | some (.ret v, H) => K.k v H
  | some (.pan v, H) => Qp.k v H
  | none => False
def HSD (chg : Bool) (H : Heap) (r : Res) [K : Kt KT] : Prop :=
  match r with
  | some (.ret v, H') => (chg || sameH H' H) = true ∧ K.k v H'
  | _ => False
def HG (v : EV) (t : Bool) [a : Kt PT] [b : Kt PT] : Prop :=
  match v with
  | .bool t' => if t' = t then a.k () else b.k ()
  | .tup [] => b.k ()
  | _ => False
def HC (v : EV) [a : Kt PT] [b : Kt PT] : Prop :=
  match v with
  | .bool t => if t = true then a.k () else b.k ()
  | _ => False
def liftO (x : Option (EV × Heap)) : Res :=
  match x with
  | some (v, H) => some (.ret v, H)
  | none => none
noncomputable def callD (f : EV) (as : List EV) (H : Heap) : Res :=
  match f with
  | .func (.func g) first cap => den E g (first ++ as ++ cap) H
  | _ => none
def panD (x : EV) (H : Heap) : Res :=
  match x with
  | .iface t v => some (.pan (.iface t v), H)
  | _ => none

end

section
variable {E : Env} {s : Slots} {H : Heap} {Q : QT}

@[congr] theorem HS_congr {r r' : Res} {Qp K : Kt KT} (h : r = r') : @HS r Qp K = @HS r' Qp K := by rw [h]
@[congr] theorem HSD_congr {c : Bool} {r r' : Res} {K : Kt KT} (h : r = r') : @HSD c H r K = @HSD c H r' K := by rw [h]
@[congr] theorem HG_congr {v v' : EV} {t : Bool} {a b : Kt PT} (h : v = v') : @HG v t a b = @HG v' t a b := by rw [h]
@[congr] theorem HC_congr {v v' : EV} {a b : Kt PT} (h : v = v') : @HC v a b = @HC v' a b := by rw [h]

/-! ### The head's rules -/
theorem Hd_skip : @Hd E ⟨.skip⟩ ⟨s⟩ ⟨H⟩ ⟨Q⟩ = Q .normal s H := propext ⟨fun ⟨x, s', H', h, hq⟩ => by simp only [denC_skip] at h; cases h; exact hq, fun h => ⟨_, _, _, denC_skip, h⟩⟩
theorem Hd_exit {id : Nat} : @Hd E ⟨.exit id⟩ ⟨s⟩ ⟨H⟩ ⟨Q⟩ = Q (.exit id) s H := propext ⟨fun ⟨x, s', H', h, hq⟩ => by simp only [denC_exit] at h; cases h; exact hq, fun h => ⟨_, _, _, denC_exit, h⟩⟩
theorem Hd_ret : @Hd E ⟨.ret⟩ ⟨s⟩ ⟨H⟩ ⟨Q⟩ = Q .ret s H := propext ⟨fun ⟨x, s', H', h, hq⟩ => by simp only [denC_ret] at h; cases h; exact hq, fun h => ⟨_, _, _, denC_ret, h⟩⟩
theorem Hd_ops {l : List EOper} : @Hd E ⟨.ops l⟩ ⟨s⟩ ⟨H⟩ ⟨Q⟩ = @HO E ⟨l⟩ ⟨s⟩ ⟨H⟩ ⟨Q⟩ := by unfold Hd HO; simp only [denC_ops]
theorem Hd_draw {l : List (EOper × Bool)} : @Hd E ⟨.draw l⟩ ⟨s⟩ ⟨H⟩ ⟨Q⟩ = @HD E ⟨l⟩ ⟨s⟩ ⟨H⟩ ⟨Q⟩ := by unfold Hd HD; simp only [denC_draw]

theorem Hd_drawS {l : List EOper} {us : List (Nat × Nat)} {s' : Slots} {H' : Heap} {fs : List (Option Nat)} (h : dsF E.γ l s H = some (s', H', fs)) (ha : apart fs us = true) (hq : Q .normal s' H') : @Hd E ⟨.drawS l us⟩ ⟨s⟩ ⟨H⟩ ⟨Q⟩ :=
  ⟨.normal, s', H', by simp only [denC_drawS, h, ha, if_true], hq⟩
theorem Hd_seq {a b : EC} : @Hd E ⟨.seq a b⟩ ⟨s⟩ ⟨H⟩ ⟨Q⟩ = @Hd E ⟨a⟩ ⟨s⟩ ⟨H⟩ ⟨thenA (fun s' H' => @Hd E ⟨b⟩ ⟨s'⟩ ⟨H'⟩ ⟨Q⟩) Q⟩ := by
  refine propext ⟨?_, ?_⟩
  · rintro ⟨x, s', H', h, hq⟩
    simp only [denC_seq] at h
    rcases bindN_some h with ⟨s1, H1, h1, h2⟩ | ⟨h1, hne⟩
    · exact ⟨_, _, _, h1, x, s', H', h2, hq⟩
    · refine ⟨_, _, _, h1, ?_⟩
      cases x <;> first | exact absurd rfl hne | exact hq
  · rintro ⟨x, s1, H1, h1, hq⟩
    simp only at h1 hq
    unfold Hd
    simp only [denC_seq, h1]
    cases x with
    | normal => exact hq
    | _ => exact ⟨_, _, _, rfl, hq⟩

theorem Hd_block {id : Nat} {c : EC} : @Hd E ⟨.block id c⟩ ⟨s⟩ ⟨H⟩ ⟨Q⟩ = @Hd E ⟨c⟩ ⟨s⟩ ⟨H⟩ ⟨inBlockA id Q⟩ := by
  refine propext ⟨?_, ?_⟩
  · rintro ⟨x, s', H', h, hq⟩
    simp only [denC_block] at h
    cases hx : denC E c s H with
    | none => rw [hx] at h; simp [blockX] at h
    | some y =>
      obtain ⟨y, s1, H1⟩ := y
      refine ⟨y, s1, H1, hx, ?_⟩
      rw [hx] at h
      cases y with
      | exit id' =>
        simp only [blockX] at h
        simp only [inBlockA]
        split at h
        · rename_i e; rw [if_pos e]; cases h; exact hq
        · rename_i e; rw [if_neg e]; cases h; exact hq
      | _ => cases h; exact hq
  · rintro ⟨x, s1, H1, h1, hq⟩
    simp only at h1 hq
    unfold Hd
    simp only [denC_block, h1]
    cases x with
    | exit id' =>
      simp only [inBlockA] at hq
      simp only [blockX]
      split at hq
      · rename_i e; rw [if_pos e]; exact ⟨_, _, _, rfl, hq⟩
      · rename_i e; rw [if_neg e]; exact ⟨_, _, _, rfl, hq⟩
    | _ => exact ⟨_, _, _, rfl, hq⟩

theorem Hd_cond {c : EOpd} {a b : EC} : @Hd E ⟨.cond c a b⟩ ⟨s⟩ ⟨H⟩ ⟨Q⟩ = @HC (ev E.γ s c) ⟨fun _ => @Hd E ⟨a⟩ ⟨s⟩ ⟨H⟩ ⟨Q⟩⟩ ⟨fun _ => @Hd E ⟨b⟩ ⟨s⟩ ⟨H⟩ ⟨Q⟩⟩ := by
  unfold Hd
  simp only [denC_cond]
  generalize ev E.γ s c = v
  cases v with
  | bool t => cases t <;> simp [condA, HC]
  | _ => simp [condA, HC]

theorem HO_nil : @HO E ⟨[]⟩ ⟨s⟩ ⟨H⟩ ⟨Q⟩ = Q .normal s H := propext ⟨fun ⟨x, s', H', h, hq⟩ => by cases h; exact hq, fun h => ⟨_, _, _, rfl, h⟩⟩
theorem HD_nil : @HD E ⟨[]⟩ ⟨s⟩ ⟨H⟩ ⟨Q⟩ = Q .normal s H := propext ⟨fun ⟨x, s', H', h, hq⟩ => by cases h; exact hq, fun h => ⟨_, _, _, rfl, h⟩⟩

theorem stepO_HS {r : Res} {K : EV → Heap → Option Xsh} : (∃ x s' H', stepO r s K = some (x, s', H') ∧ Q x s' H') = @HS r ⟨fun v H' => Q (.panic v) s H'⟩ ⟨fun v H' => ∃ x s1 H1, K v H' = some (x, s1, H1) ∧ Q x s1 H1⟩ := by
  unfold stepO HS
  cases r with
  | none => simp
  | some y =>
    obtain ⟨y, H1⟩ := y
    cases y with
    | ret v => rfl
    | pan v => exact propext ⟨fun ⟨x, s', H', h, hq⟩ => by cases h; exact hq, fun h => ⟨_, _, _, rfl, h⟩⟩

theorem HO_cons {d : Option Nat} {op : EOp} {l : List EOper} : @HO E ⟨⟨d, op, none⟩ :: l⟩ ⟨s⟩ ⟨H⟩ ⟨Q⟩ = @HS (opD E (ev E.γ s) H op) ⟨fun v H' => Q (.panic v) s H'⟩ ⟨fun v H' => @HO E ⟨l⟩ ⟨putA s d v⟩ ⟨H'⟩ ⟨Q⟩⟩ := by
  unfold HO denO opD
  simp only [opsF]
  exact stepO_HS
theorem gate_HG {v : EV} {t : Bool} {a b : Option Xsh} : (∃ x s' H', gateO v t a b = some (x, s', H') ∧ Q x s' H') = @HG v t ⟨fun _ => ∃ x s' H', a = some (x, s', H') ∧ Q x s' H'⟩ ⟨fun _ => ∃ x s' H', b = some (x, s', H') ∧ Q x s' H'⟩ := by
  cases v with
  | bool t' => cases t' <;> cases t <;> simp [gateO, HG]
  | tup l => cases l <;> simp [gateO, HG]
  | _ => simp [gateO, HG]
theorem HO_guard {d : Option Nat} {op : EOp} {g : Nat} {b : Bool} {l : List EOper} : @HO E ⟨⟨d, op, some (g, b)⟩ :: l⟩ ⟨s⟩ ⟨H⟩ ⟨Q⟩ =
    @HG (s g) b ⟨fun _ => @HO E ⟨⟨d, op, none⟩ :: l⟩ ⟨s⟩ ⟨H⟩ ⟨Q⟩⟩ ⟨fun _ => @HO E ⟨l⟩ ⟨putA s d (.tup [])⟩ ⟨H⟩ ⟨Q⟩⟩ := by
  unfold HO denO
  simp only [opsF]
  exact gate_HG

theorem stepD_HSD {chg : Bool} {r : Res} {K : EV → Heap → Option Xsh} : (∃ x s' H', stepD chg H r K = some (x, s', H') ∧ Q x s' H') = @HSD chg H r ⟨fun v H' => ∃ x s1 H1, K v H' = some (x, s1, H1) ∧ Q x s1 H1⟩ := by
  unfold stepD HSD
  cases r with
  | none => simp
  | some y =>
    obtain ⟨y, H1⟩ := y
    cases y with
    | ret v =>
      simp only
      split
      · rename_i e; simp [e]
      · rename_i e; simp [e]
    | pan v => simp

theorem HD_cons {d : Option Nat} {op : EOp} {c : Bool} {l : List (EOper × Bool)} : @HD E ⟨(⟨d, op, none⟩, c) :: l⟩ ⟨s⟩ ⟨H⟩ ⟨Q⟩ = @HSD c H (opD E (ev E.γ s) H op) ⟨fun v H' => @HD E ⟨l⟩ ⟨putA s d v⟩ ⟨H'⟩ ⟨Q⟩⟩ := by
  unfold HD denD opD
  simp only [drF]
  exact stepD_HSD
theorem HD_guard {d : Option Nat} {op : EOp} {g : Nat} {b c : Bool} {l : List (EOper × Bool)} : @HD E ⟨(⟨d, op, some (g, b)⟩, c) :: l⟩ ⟨s⟩ ⟨H⟩ ⟨Q⟩ =
    @HG (s g) b ⟨fun _ => @HD E ⟨(⟨d, op, none⟩, c) :: l⟩ ⟨s⟩ ⟨H⟩ ⟨Q⟩⟩ ⟨fun _ => @HD E ⟨l⟩ ⟨putA s d (.tup [])⟩ ⟨H⟩ ⟨Q⟩⟩ := by
  unfold HD denD
  simp only [drF]
  exact gate_HG

theorem HS_ret {v : EV} {Qp K : KT} : @HS (some (.ret v, H)) ⟨Qp⟩ ⟨K⟩ = K v H := rfl
theorem HS_pan {v : EV} {Qp K : KT} : @HS (some (.pan v, H)) ⟨Qp⟩ ⟨K⟩ = Qp v H := rfl
theorem HSD_true {v : EV} {H' : Heap} {K : KT} : @HSD true H (some (.ret v, H')) ⟨K⟩ = K v H' := by simp [HSD]
theorem HSD_same {c : Bool} {v : EV} {K : KT} : @HSD c H (some (.ret v, H)) ⟨K⟩ = K v H := by simp [HSD, sameH_self]
theorem HG_tt {a b : Prop} : @HG (.bool true) true ⟨fun _ => a⟩ ⟨fun _ => b⟩ = a := rfl
theorem HG_ff {a b : Prop} : @HG (.bool false) false ⟨fun _ => a⟩ ⟨fun _ => b⟩ = a := rfl
theorem HG_tf {a b : Prop} : @HG (.bool true) false ⟨fun _ => a⟩ ⟨fun _ => b⟩ = b := rfl
theorem HG_ft {a b : Prop} : @HG (.bool false) true ⟨fun _ => a⟩ ⟨fun _ => b⟩ = b := rfl
theorem HG_gone {t : Bool} {a b : Prop} : @HG (.tup []) t ⟨fun _ => a⟩ ⟨fun _ => b⟩ = b := rfl
theorem HC_t {a b : Prop} : @HC (.bool true) ⟨fun _ => a⟩ ⟨fun _ => b⟩ = a := rfl
theorem HC_f {a b : Prop} : @HC (.bool false) ⟨fun _ => a⟩ ⟨fun _ => b⟩ = b := rfl
theorem lift_some {v : EV} : liftO (some (v, H)) = some (.ret v, H) := rfl
theorem callD_func {g : FuncId} {first cap as : List EV} : callD E (.func (.func g) first cap) as H = den E g (first ++ as ++ cap) H := rfl
theorem panD_iface {t : TypeId} {v : EV} : panD (.iface t v) H = some (.pan (.iface t v), H) := rfl

theorem guard_some {α : Type} {p : Prop} [Decidable p] {x : α} (h : p) : (if p then some x else none) = some x := if_pos h
theorem guard_not {α : Type} {p : Prop} [Decidable p] {x : α} (h : ¬p) : (if p then none else some x) = some x := if_neg h
theorem HG_split {t t' : Bool} {a b : Kt PT} (h1 : t' = t → a.k ()) (h2 : t' ≠ t → b.k ()) : @HG (.bool t') t a b := by
  unfold HG
  simp only
  split
  · exact h1 (by assumption)
  · exact h2 (by assumption)
theorem HC_split {t : Bool} {a b : Kt PT} (h1 : t = true → a.k ()) (h2 : t = false → b.k ()) : @HC (.bool t) a b := by
  cases t
  · exact h2 rfl
  · exact h1 rfl
theorem HC_dec {p : Prop} [Decidable p] {a b : Kt PT} (h1 : p → a.k ()) (h2 : ¬p → b.k ()) : @HC (.bool (decide p)) a b :=
  HC_split (fun h => h1 (of_decide_eq_true h)) (fun h => h2 (of_decide_eq_false h))

section
variable {ρ : EOpd → EV}
theorem opD_call {f : EOpd} {as : List EOpd} : opD E ρ H (.call f as) = callD E (ρ f) (as.map ρ) H := rfl
theorem opD_panic {x : EOpd} : opD E ρ H (.panic x) = panD (ρ x) H := rfl
theorem opD_plain {op : EOp} (h : (match op with | .call _ _ | .panic _ => false | _ => true) = true) : opD E ρ H op = liftO (evOp ρ H op) := by
  cases op <;> first | rfl | simp at h
theorem opD_mov {x} : opD E ρ H (.mov x) = liftO (evOp ρ H (.mov x)) := rfl
theorem opD_pick {c a b} : opD E ρ H (.pick c a b) = liftO (evOp ρ H (.pick c a b)) := rfl
theorem opD_box {x} : opD E ρ H (.box x) = liftO (evOp ρ H (.box x)) := rfl
theorem opD_build {z p} : opD E ρ H (.build z p) = liftO (evOp ρ H (.build z p)) := rfl
theorem opD_bsl {a b c d e} : opD E ρ H (.bsl a b c d e) = liftO (evOp ρ H (.bsl a b c d e)) := rfl
theorem opD_load {a b c} : opD E ρ H (.load a b c) = liftO (evOp ρ H (.load a b c)) := rfl
theorem opD_store {a b c} : opD E ρ H (.store a b c) = liftO (evOp ρ H (.store a b c)) := rfl
theorem opD_nilchk {a} : opD E ρ H (.nilchk a) = liftO (evOp ρ H (.nilchk a)) := rfl
theorem opD_bin {a b c} : opD E ρ H (.bin a b c) = liftO (evOp ρ H (.bin a b c)) := rfl
theorem opD_cmpBool {a b c} : opD E ρ H (.cmpBool a b c) = liftO (evOp ρ H (.cmpBool a b c)) := rfl
theorem opD_cmpAgg {a b c d} : opD E ρ H (.cmpAgg a b c d) = liftO (evOp ρ H (.cmpAgg a b c d)) := rfl
theorem opD_cmpNil {a b c d} : opD E ρ H (.cmpNil a b c d) = liftO (evOp ρ H (.cmpNil a b c d)) := rfl
theorem opD_un {a b} : opD E ρ H (.un a b) = liftO (evOp ρ H (.un a b)) := rfl
theorem opD_cvtInt {a b} : opD E ρ H (.cvtInt a b) = liftO (evOp ρ H (.cvtInt a b)) := rfl
theorem opD_iface {a b} : opD E ρ H (.iface a b) = liftO (evOp ρ H (.iface a b)) := rfl
theorem opD_func {a b c} : opD E ρ H (.func a b c) = liftO (evOp ρ H (.func a b c)) := rfl
theorem opD_faddr {a b} : opD E ρ H (.faddr a b) = liftO (evOp ρ H (.faddr a b)) := rfl
theorem opD_field {a b c d} : opD E ρ H (.field a b c d) = liftO (evOp ρ H (.field a b c d)) := rfl
theorem opD_iaddrA {a b c d} : opD E ρ H (.iaddrA a b c d) = liftO (evOp ρ H (.iaddrA a b c d)) := rfl
theorem opD_iaddrS {a b c} : opD E ρ H (.iaddrS a b c) = liftO (evOp ρ H (.iaddrS a b c)) := rfl
theorem opD_idxA {a b c d e} : opD E ρ H (.idxA a b c d e) = liftO (evOp ρ H (.idxA a b c d e)) := rfl
theorem opD_idxStr {a b} : opD E ρ H (.idxStr a b) = liftO (evOp ρ H (.idxStr a b)) := rfl
theorem opD_extract {a b} : opD E ρ H (.extract a b) = liftO (evOp ρ H (.extract a b)) := rfl
theorem opD_slStr {a b c} : opD E ρ H (.slStr a b c) = liftO (evOp ρ H (.slStr a b c)) := rfl
theorem opD_slSl {a b c d} : opD E ρ H (.slSl a b c d) = liftO (evOp ρ H (.slSl a b c d)) := rfl
theorem opD_slSl3 {a b c d e} : opD E ρ H (.slSl3 a b c d e) = liftO (evOp ρ H (.slSl3 a b c d e)) := rfl
theorem opD_cap {a} : opD E ρ H (.cap a) = liftO (evOp ρ H (.cap a)) := rfl
theorem opD_clear {a b c} : opD E ρ H (.clear a b c) = liftO (evOp ρ H (.clear a b c)) := rfl
theorem opD_len {a b} : opD E ρ H (.len a b) = liftO (evOp ρ H (.len a b)) := rfl
theorem opD_mkmap : opD E ρ H .mkmap = liftO (evOp ρ H .mkmap) := rfl
theorem opD_lookup {a b c d e f} : opD E ρ H (.lookup a b c d e f) = liftO (evOp ρ H (.lookup a b c d e f)) := rfl
theorem opD_mapset {a b c d e} : opD E ρ H (.mapset a b c d e) = liftO (evOp ρ H (.mapset a b c d e)) := rfl
theorem opD_append {a b c d} : opD E ρ H (.append a b c d) = liftO (evOp ρ H (.append a b c d)) := rfl
theorem opD_appz {a b c d e} : opD E ρ H (.appz a b c d e) = liftO (evOp ρ H (.appz a b c d e)) := rfl
theorem opD_rng {a} : opD E ρ H (.rng a) = liftO (evOp ρ H (.rng a)) := rfl
theorem opD_next {a} : opD E ρ H (.next a) = liftO (evOp ρ H (.next a)) := rfl
theorem opD_slArr {a b c d} : opD E ρ H (.slArr a b c d) = liftO (evOp ρ H (.slArr a b c d)) := rfl
theorem opD_toStr {a} : opD E ρ H (.toStr a) = liftO (evOp ρ H (.toStr a)) := rfl
theorem opD_idxB {a b} : opD E ρ H (.idxB a b) = liftO (evOp ρ H (.idxB a b)) := rfl
theorem opD_mm {a b c} : opD E ρ H (.mm a b c) = liftO (evOp ρ H (.mm a b c)) := rfl
theorem opD_mkSl {a b c d e} : opD E ρ H (.mkSl a b c d e) = liftO (evOp ρ H (.mkSl a b c d e)) := rfl
theorem opD_copy {a b c} : opD E ρ H (.copy a b c) = liftO (evOp ρ H (.copy a b c)) := rfl
theorem opD_tassert {a b c d} : opD E ρ H (.tassert a b c d) = liftO (evOp ρ H (.tassert a b c d)) := rfl
theorem opD_runeStr {a} : opD E ρ H (.runeStr a) = liftO (evOp ρ H (.runeStr a)) := rfl
end

theorem then_norm {K : Slots → Heap → Prop} : thenA K Q .normal s H = K s H := rfl
theorem then_ex {K : Slots → Heap → Prop} {id : Nat} : thenA K Q (.exit id) s H = Q (.exit id) s H := rfl
theorem then_rt {K : Slots → Heap → Prop} : thenA K Q .ret s H = Q .ret s H := rfl
theorem then_pan {K : Slots → Heap → Prop} {v : EV} : thenA K Q (.panic v) s H = Q (.panic v) s H := rfl
theorem blk_norm {id : Nat} : inBlockA id Q .normal s H = Q .normal s H := rfl
theorem blk_rt {id : Nat} : inBlockA id Q .ret s H = Q .ret s H := rfl
theorem blk_pan {id : Nat} {v : EV} : inBlockA id Q (.panic v) s H = Q (.panic v) s H := rfl
theorem blk_ex {id id' : Nat} : inBlockA id Q (.exit id') s H = if id' = id then Q .normal s H else Q (.exit id') s H := rfl

/-- How a function ends. -/
def finQ (H : Heap) (rs : List ERes) (r : ER × Heap) (x : AX) (s : Slots) (H' : Heap) : Prop := finF H rs (some (x, s, H')) = some r
def finR (H : Heap) (r : ER × Heap) (v : Option EV) (H' : Heap) : Prop :=
  match v with
  | some v => finV H v .ret H' = some r
  | none => False
theorem fin_ret {rs : List ERes} {r : ER × Heap} {s : Slots} {H' : Heap} : finQ H rs r .ret s H' = finR H r (evResults s H' rs) H' := by
  unfold finQ finR finF; cases h : evResults s H' rs <;> simp [h]
theorem fin_norm {rs : List ERes} {r : ER × Heap} {s : Slots} {H' : Heap} : finQ H rs r .normal s H' = finR H r (evResults s H' rs) H' := by
  unfold finQ finR finF; cases h : evResults s H' rs <;> simp [h]
theorem fin_pan {rs : List ERes} {r : ER × Heap} {v : EV} {s : Slots} {H' : Heap} : finQ H rs r (.panic v) s H' = (finV H v .pan H' = some r) := rfl
theorem finR_some {r : ER × Heap} {v : EV} {H' : Heap} : finR H r (some v) H' = (finV H v .ret H' = some r) := rfl
@[congr] theorem finR_congr {r : ER × Heap} {v v' : Option EV} {H' : Heap} (h : v = v') : finR H r v H' = finR H r v' H' := by rw [h]

theorem newP_ok {L : Nat} {v : EV} (hv : v.ok L = true) : newP L v = false := by
  cases v <;> first | rfl | (simp only [EV.ok, decide_eq_true_eq] at hv; simp only [newP, decide_eq_false_iff_not]; omega)
theorem finV_drop {G : Heap} {v : EV} {K : EV → ER} {r : ER} (hv : v.ok H.length = true) (e : K v = r) : finV H v K (H ++ G) = some (r, H) := by
  unfold finV
  rw [newP_ok hv, fz_ok hv, List.take_left, sameH_self, Bool.true_or, ← e]; rfl
theorem finV_same {v : EV} {K : EV → ER} {r : ER} (hv : v.ok H.length = true) (e : K v = r) : finV H v K H = some (r, H) := by
  unfold finV
  rw [newP_ok hv, fz_ok hv, List.take_of_length_le (Nat.le_refl _), sameH_self, Bool.true_or, ← e]; rfl
theorem finV_fz {G : Heap} {v v' : EV} {K : EV → ER} {r : ER} (hp : newP H.length v = false) (hv : fz H.length (H ++ G) 8 v = some v') (e : K v' = r) : finV H v K (H ++ G) = some (r, H) := by
  unfold finV
  rw [hp, hv, List.take_left, sameH_self, Bool.true_or, ← e]; rfl
/-- The caller's blocks are turned. -/
theorem finV_turn {H1 G : Heap} {v v' : EV} {K : EV → ER} {r : ER} (hp : newP H.length v = false) (hv : fz H.length (H1 ++ G) 8 v = some v') (hl : H1.length = H.length) (ho : okB H.length (H1 ++ G) = true) (e : K v' = r) :
    finV H v K (H1 ++ G) = some (r, H1) := by
  unfold finV
  rw [hp, hv, ho, Bool.or_true, ← e, ← hl, List.take_left]; rfl
theorem finV_all {v : EV} {K : EV → ER} {r : ER} {H' : Heap} (hp : newP H.length v = true) (e : K v = r) : finV H v K H' = some (r, H') := by
  unfold finV
  rw [hp, ← e]; rfl

/-- A FUNCTION'S RUN. -/
structure Def (E : Env) (f : FuncId) (ec : EC) (rs : List ERes) (nt : Nat) : Prop where
  T : E.T f = some ⟨ec, rs, nt⟩
  Ψ : ∀ as H, E.Ψ f as H = none
  K : E.K f = false

theorem den_of {f : FuncId} {ec : EC} {rs : List ERes} {nt : Nat} (hT : Def E f ec rs nt) {as : List EV} {r : ER × Heap} (hl : as.length ≤ nt) (h : @Hd E ⟨ec⟩ ⟨slots0 as⟩ ⟨H⟩ ⟨finQ H rs r⟩) : den E f as H = some r := by
  rw [den_fun hT.T (hT.Ψ as H) hT.K hl]
  obtain ⟨x, s', H', h1, h2⟩ := h
  simp only at h1 h2
  rw [h1]
  exact h2

/-- A function behind whose calls the heap stays as it is. -/
structure DefK (E : Env) (f : FuncId) (ec : EC) (rs : List ERes) (nt : Nat) : Prop where
  T : E.T f = some ⟨ec, rs, nt⟩
  Ψ : ∀ as H, E.Ψ f as H = none
  K : E.K f = true
/-- How it ends. -/
def finQK (rs : List ERes) (r : ER × Heap) (x : AX) (s : Slots) (H' : Heap) : Prop := finK rs (some (x, s, H')) = some r
def finRK (r : ER × Heap) (v : Option EV) (H' : Heap) : Prop :=
  match v with
  | some v => (ER.ret v, H') = r
  | none => False
theorem finK_ret {rs : List ERes} {r : ER × Heap} {s : Slots} {H' : Heap} : finQK rs r .ret s H' = finRK r (evResults s H' rs) H' := by
  unfold finQK finRK finK; cases h : evResults s H' rs <;> simp [h]
theorem finK_norm {rs : List ERes} {r : ER × Heap} {s : Slots} {H' : Heap} : finQK rs r .normal s H' = finRK r (evResults s H' rs) H' := by
  unfold finQK finRK finK; cases h : evResults s H' rs <;> simp [h]
theorem finK_pan {rs : List ERes} {r : ER × Heap} {v : EV} {s : Slots} {H' : Heap} : finQK rs r (.panic v) s H' = ((ER.pan v, H') = r) := by unfold finQK finK; simp
theorem finRK_some {r : ER × Heap} {v : EV} {H' : Heap} : finRK r (some v) H' = ((ER.ret v, H') = r) := rfl
@[congr] theorem finRK_congr {r : ER × Heap} {v v' : Option EV} {H' : Heap} (h : v = v') : finRK r v H' = finRK r v' H' := by rw [h]
theorem den_ofK {f : FuncId} {ec : EC} {rs : List ERes} {nt : Nat} (hT : DefK E f ec rs nt) {as : List EV} {r : ER × Heap} (hl : as.length ≤ nt) (h : @Hd E ⟨ec⟩ ⟨slots0 as⟩ ⟨H⟩ ⟨finQK rs r⟩) : den E f as H = some r := by
  rw [den_funK hT.T (hT.Ψ as H) hl, hT.K]
  obtain ⟨x, s', H', h1, h2⟩ := h
  simp only at h1 h2
  rw [h1]
  exact h2

def Sl (s : Slots) : List (Nat × EV) → Prop
  | [] => True
  | (n, v) :: l => s n = v ∧ Sl s l

/-- A LOOP by its states. -/
theorem while_of {ι : Type} {c : EC} (J : ι → Prop) (μ : ι → Nat) (S : ι → List (Nat × EV)) (Hp : ι → Heap) (i0 : ι) (hJ : J i0) (hs : Sl s (S i0)) (hH : H = Hp i0)
    (step : ∀ i s, J i → Sl s (S i) → ∀ K : Slots → Heap → Prop, (∀ j s' H', J j → μ j < μ i → Sl s' (S j) → H' = Hp j → K s' H') → @Hd E ⟨c⟩ ⟨s⟩ ⟨Hp i⟩ ⟨thenA K Q⟩) : @Hd E ⟨.loop c⟩ ⟨s⟩ ⟨H⟩ ⟨Q⟩ := by
  have key : ∀ m i s, μ i = m → J i → Sl s (S i) → @Hd E ⟨.loop c⟩ ⟨s⟩ ⟨Hp i⟩ ⟨Q⟩ := by
    intro m
    induction m using Nat.strongRecOn with
    | _ m ih =>
      intro i s hm hJ hs
      have := step i s hJ hs (fun s' H' => @Hd E ⟨.loop c⟩ ⟨s'⟩ ⟨H'⟩ ⟨Q⟩) fun j s' H' hJ' hlt hs' e => by
        subst e
        exact ih (μ j) (by omega) j s' rfl hJ' hs'
      obtain ⟨x, s1, H1, h1, h2⟩ := this
      simp only at h1 h2
      show ∃ x s' H', denC E (.loop c) s (Hp i) = some (x, s', H') ∧ Q x s' H'
      rw [denC_loop, h1]
      cases x with
      | normal => exact h2
      | _ => exact ⟨_, _, _, rfl, h2⟩
  rw [hH]
  exact key _ i0 s rfl hJ hs

attribute [go_sem ↓] Hd_skip Hd_exit Hd_ret Hd_ops Hd_draw Hd_seq Hd_block Hd_cond HO_nil HD_nil HO_cons HO_guard HD_cons HD_guard opD_call opD_panic
  opD_mov opD_pick opD_box opD_build opD_bsl opD_load opD_store opD_nilchk opD_bin opD_cmpBool opD_cmpAgg opD_cmpNil opD_un opD_cvtInt opD_iface opD_func opD_faddr opD_field opD_iaddrA opD_iaddrS opD_idxA opD_idxStr opD_extract opD_slStr opD_slSl opD_slSl3 opD_cap opD_clear opD_len opD_mkmap opD_lookup opD_mapset opD_append opD_appz opD_rng opD_next opD_slArr opD_toStr opD_idxB opD_mm opD_mkSl opD_copy opD_tassert opD_runeStr
  then_norm then_ex then_rt then_pan blk_norm blk_rt blk_pan blk_ex fin_ret fin_norm fin_pan finK_ret finK_norm finK_pan
attribute [go_sem] HS_ret HS_pan HSD_true HSD_same HG_tt HG_ff HG_tf HG_ft HG_gone HC_t HC_f guard_some guard_not lift_some callD_func panD_iface finR_some finRK_some evResults evResL evRes List.nil_append List.append_nil List.cons_append
end
end Abs
