/- A part. -/
import Derived.WalkKit
import Derived.Orders
import Derived.Deep.LoopGhost
namespace Abs
open Go
inductive EV where
 | undef
 | bool (b : Bool)
 | int (k : IntKind) (n : Int)
 | str (s : List UInt8)
 | nilptr
 | ptr (b sz i j : Nat)
 | iptr (cells : List EV) (j : Nat)
 | nilsl
 | zsl
 | imm (sz : Nat) (es : List EV)
 | own (b sz off len : Nat)
 | nilfn
 | func (f : Fn) (first cap : List EV)
 | nilif
 | iface (t : TypeId) (v : EV)
 | nilmap
 | map (b : Nat)
 | agg (cs : List EV)
 | tup (vs : List EV)
 deriving Inhabited
inductive EB where
 | row (sz : Nat) (es : List EV)
 | map (es : List (EV × EV))
 | it (s : List UInt8) (p : Nat)
 deriving Inhabited
abbrev Heap := List (Option EB)
def EV.cells : EV → List EV
 | .agg cs => cs
 | v => [v]
def EV.one : EV → Bool
 | .agg _ | .tup _ | .undef => false
 | _ => true
inductive RV (φ : Nat → Nat) (N : Nat) (I : Nat → Prop) (w : World) : EV → Value → Prop where
 | undef (v : Value) : RV φ N I w .undef v
 | bool (b : Bool) : RV φ N I w (.bool b) (.bool b)
 | int (k : IntKind) (n : Int) : RV φ N I w (.int k n) (.int k n)
 | str (s : List UInt8) : RV φ N I w (.str s) (.string ⟨s.toArray⟩)
 | nilptr : RV φ N I w .nilptr (.pointer none)
 | ptr (b sz i j : Nat) (h : b < N) : RV φ N I w (.ptr b sz i j) (.pointer (some ⟨φ b, i * sz + j, none⟩))
 | iptr (cells : List EV) (j B o : Nat) (c : Array Value) (T : TypeId) (fr : Nat × Nat) (hI : I B) (hB : w.heap[B]? = some (.cells c T fr))
   (hs : o + cells.length ≤ c.size) (h : ∀ (k : Nat) (x : EV) (v : Value), cells[k]? = some x → c[o + k]? = some v → RV φ N I w x v) :
   RV φ N I w (.iptr cells j) (.pointer (some ⟨B, o + j, none⟩))
 | nilsl : RV φ N I w .nilsl (.slice none 0 0)
 | zsl (a : Addr) : RV φ N I w .zsl (.slice (some a) 0 0)
 | imm (sz : Nat) (es : List EV) (B o cap : Nat) (c : Array Value) (T : TypeId) (fr : Nat × Nat) (hI : I B) (hB : w.heap[B]? = some (.cells c T fr))
   (hs : o + es.length * sz ≤ c.size) (hc : es.length ≤ cap) (hz : ∀ e ∈ es, e.cells.length = sz)
   (h : ∀ (i j : Nat) (e x : EV) (v : Value), es[i]? = some e → e.cells[j]? = some x → c[o + i * sz + j]? = some v → RV φ N I w x v) :
   RV φ N I w (.imm sz es) (.slice (some ⟨B, o, none⟩) es.length cap)
 | imm0 (sz : Nat) (a : Addr) : RV φ N I w (.imm sz []) (.slice (some a) 0 0)
 | own0 (b sz off : Nat) (a : Addr) (hb : b < N) : RV φ N I w (.own b sz off 0) (.slice (some a) 0 0)
 | own (b sz off len cap n : Nat) (T : TypeId) (hb : b < N) (hs : w.shape? (φ b) = some (T, n)) (hn : (off + cap) * sz ≤ n) (hc : len ≤ cap) :
   RV φ N I w (.own b sz off len) (.slice (some ⟨φ b, off * sz, none⟩) len cap)
 | nilfn : RV φ N I w .nilfn .nilFunc
 | func (f : Fn) (first cap : List EV) (vf vc : Array Value) (h1 : first.length = vf.size) (h2 : cap.length = vc.size)
   (h3 : ∀ (k : Nat) (x : EV) (v : Value), first[k]? = some x → vf[k]? = some v → RV φ N I w x v)
   (h4 : ∀ (k : Nat) (x : EV) (v : Value), cap[k]? = some x → vc[k]? = some v → RV φ N I w x v) :
   RV φ N I w (.func f first cap) (.func f vf vc)
 | nilif : RV φ N I w .nilif .nilIface
 | iface (t : TypeId) (x : EV) (v : Value) (h : RV φ N I w x v) : RV φ N I w (.iface t x) (.iface t v)
 | nilmap : RV φ N I w .nilmap (.map none)
 | map (b : Nat) (h : b < N) : RV φ N I w (.map b) (.map (some (φ b)))
 | agg (cs : List EV) (vs : Array Value) (hl : cs.length = vs.size)
   (h : ∀ (k : Nat) (x : EV) (v : Value), cs[k]? = some x → vs[k]? = some v → RV φ N I w x v) : RV φ N I w (.agg cs) (.agg vs)
 | tup (cs : List EV) (vs : Array Value) (hl : cs.length = vs.size)
   (h : ∀ (k : Nat) (x : EV) (v : Value), cs[k]? = some x → vs[k]? = some v → RV φ N I w x v) : RV φ N I w (.tup cs) (.tuple vs)
def RB (φ : Nat → Nat) (N : Nat) (I : Nat → Prop) (w : World) (B : Nat) : EB → Prop
 | .row sz es => ∃ (c : Array Value) (T : TypeId), w.heap[B]? = some (.cells c T (0, 0)) ∧ es.length * sz ≤ c.size ∧ (∀ e ∈ es, e.cells.length = sz) ∧
   ∀ (i j : Nat) (e x : EV) (v : Value), es[i]? = some e → e.cells[j]? = some x → c[i * sz + j]? = some v → RV φ N I w x v
 | .map es => ∃ (ms : Array MapEntry) (clock : Nat), w.heap[B]? = some (.map ms clock) ∧ ms.size = es.length ∧
   ∀ (i : Nat) (e : EV × EV) (m : MapEntry), es[i]? = some e → ms[i]? = some m → RV φ N I w e.1 m.key ∧ RV φ N I w e.2 m.val
 | .it s p => w.heap[B]? = some (.stringIter ⟨s.toArray⟩ p)
structure RH (γ : Nat → EV) (φ : Nat → Nat) (I : Nat → Prop) (H : Heap) (w : World) : Prop where
 glob : ∀ g, RV φ 0 I w (γ g) (.pointer (some ⟨g, 0, none⟩))
 blk : ∀ (b : Nat) (x : EB), H[b]? = some (some x) → RB φ H.length I w (φ b) x
 inj : ∀ (b b' : Nat) (x x' : EB), H[b]? = some (some x) → H[b']? = some (some x') → φ b = φ b' → b = b'
 imm : ∀ B, I B → B < w.heap.size
 dis : ∀ (b : Nat) (x : EB), H[b]? = some (some x) → ¬ I (φ b)
 lt : ∀ (b : Nat) (x : EB), H[b]? = some (some x) → φ b < w.heap.size
def Own (φ : Nat → Nat) (H : Heap) (B : Nat) : Prop := ∃ (b : Nat) (x : EB), H[b]? = some (some x) ∧ φ b = B
def melt : Obj → Bool
 | .cells _ _ fr => fr == (0, 0)
 | _ => true
structure Evo (φ : Nat → Nat) (I : Nat → Prop) (H : Heap) (w : World) (φ' : Nat → Nat) (I' : Nat → Prop) (H' : Heap) (w' : World) : Prop where
 size : w.heap.size ≤ w'.heap.size
 shape : ∀ B, B < w.heap.size → w'.shape? B = w.shape? B
 keep : ∀ B, B < w.heap.size → ¬ Own φ H B → w'.heap[B]? = w.heap[B]?
 imm : ∀ B, I B → I' B
 phi : ∀ i, i < H.length → φ' i = φ i
 len : H.length ≤ H'.length
 own : ∀ B, Own φ' H' B → Own φ H B ∨ w.heap.size ≤ B
 immf : ∀ B, I' B → I B ∨ Own φ H B ∨ w.heap.size ≤ B
 tape : w'.tape = w.tape
 os : w'.os = w.os
 out : w'.output = w.output
 froz : ∀ a, a.block < w.heap.size → w'.frozen? a = w.frozen? a
theorem Evo.refl (φ : Nat → Nat) (I : Nat → Prop) (H : Heap) (w : World) : Evo φ I H w φ I H w :=
 ⟨Nat.le_refl _, fun _ _ => rfl, fun _ _ _ => rfl, fun _ h => h, fun _ _ => rfl, Nat.le_refl _, fun _ h => .inl h, fun _ h => .inl h, rfl, rfl, rfl, fun _ _ => rfl⟩
theorem Evo.trans {φ φ1 φ2 : Nat → Nat} {I I1 I2 : Nat → Prop} {H H1 H2 : Heap} {w w1 w2 : World}
  (h : Evo φ I H w φ1 I1 H1 w1) (g : Evo φ1 I1 H1 w1 φ2 I2 H2 w2) : Evo φ I H w φ2 I2 H2 w2 where
 size := Nat.le_trans h.size g.size
 shape B hB := (g.shape B (Nat.lt_of_lt_of_le hB h.size)).trans (h.shape B hB)
 keep B hB hn := by
  refine (g.keep B (Nat.lt_of_lt_of_le hB h.size) fun ho => ?_).trans (h.keep B hB hn)
  rcases h.own B ho with h1 | h1
  ·exact hn h1
  ·omega
 imm B hB := g.imm B (h.imm B hB)
 phi i hi := (g.phi i (Nat.lt_of_lt_of_le hi h.len)).trans (h.phi i hi)
 len := Nat.le_trans h.len g.len
 own B hB := by
  rcases g.own B hB with h1 | h1
  ·exact h.own B h1
  ·exact .inr (Nat.le_trans h.size h1)
 immf B hB := by
  rcases g.immf B hB with h1 | h1 | h1
  ·exact h.immf B h1
  ·exact .inr (h.own B h1)
  ·exact .inr (.inr (Nat.le_trans h.size h1))
 tape := g.tape.trans h.tape
 os := g.os.trans h.os
 out := g.out.trans h.out
 froz a ha := (g.froz a (Nat.lt_of_lt_of_le ha h.size)).trans (h.froz a ha)
theorem RV.mono {φ φ' : Nat → Nat} {N N' : Nat} {I I' : Nat → Prop} {w w' : World} (hN : N ≤ N') (hφ : ∀ i, i < N → φ' i = φ i) (hI : ∀ B, I B → I' B)
  (hk : ∀ B, I B → w'.heap[B]? = w.heap[B]?) (hs : ∀ b, b < N → ∀ T n, w.shape? (φ b) = some (T, n) → w'.shape? (φ b) = some (T, n))
  {x : EV} {v : Value} (h : RV φ N I w x v) : RV φ' N' I' w' x v := by
 induction h with
 | undef v => exact .undef v
 | bool b => exact .bool b
 | int k n => exact .int k n
 | str s => exact .str s
 | nilptr => exact .nilptr
 | ptr b sz i j hb => rw [← hφ b hb]; exact .ptr b sz i j (Nat.lt_of_lt_of_le hb hN)
 | iptr cells j B o c T fr hB hb hs' _ ih => exact .iptr cells j B o c T fr (hI B hB) ((hk B hB).trans hb) hs' ih
 | nilsl => exact .nilsl
 | zsl a => exact .zsl a
 | imm sz es B o cap c T fr hB hb hs' hc hz _ ih => exact .imm sz es B o cap c T fr (hI B hB) ((hk B hB).trans hb) hs' hc hz ih
 | imm0 sz a => exact .imm0 sz a
 | own0 b sz off a hb => exact .own0 b sz off a (Nat.lt_of_lt_of_le hb hN)
 | own b sz off len cap n T hb hsh hn hc =>
  rw [← hφ b hb]; exact .own b sz off len cap n T (Nat.lt_of_lt_of_le hb hN) (by rw [hφ b hb]; exact hs b hb T n hsh) hn hc
 | nilfn => exact .nilfn
 | func f first cap vf vc h1 h2 _ _ ih1 ih2 => exact .func f first cap vf vc h1 h2 ih1 ih2
 | nilif => exact .nilif
 | iface t x v _ ih => exact .iface t x v ih
 | nilmap => exact .nilmap
 | map b hb => rw [← hφ b hb]; exact .map b (Nat.lt_of_lt_of_le hb hN)
 | agg cs vs hl _ ih => exact .agg cs vs hl ih
 | tup cs vs hl _ ih => exact .tup cs vs hl ih
theorem au9 {w : World} {B : Nat} {T : TypeId} {n : Nat} (h : w.shape? B = some (T, n)) : B < w.heap.size := by
 unfold World.shape? at h
 rcases Nat.lt_or_ge B w.heap.size with h' | h'
 ·exact h'
 ·simp [Array.getElem?_eq_none h'] at h
theorem Evo.rv {γ : Nat → EV} {φ φ' : Nat → Nat} {I I' : Nat → Prop} {H H' : Heap} {w w' : World} (h : Evo φ I H w φ' I' H' w') (hr : RH γ φ I H w) {x : EV} {v : Value}
  (hv : RV φ H.length I w x v) : RV φ' H'.length I' w' x v :=
 hv.mono h.len h.phi h.imm (fun B hB => h.keep B (hr.imm B hB) fun ⟨b, y, hb, e⟩ => hr.dis b y hb (e ▸ hB))
  (fun b _ _ _ hs => (h.shape (φ b) (au9 hs)).trans hs)
mutual
def EV.ok (n : Nat) : EV → Bool
 | .ptr b _ _ _ => b < n
 | .own b _ _ _ => b < n
 | .map b => b < n
 | .iptr cells _ => okL n cells
 | .imm _ es => okL n es
 | .func _ a b => okL n a && okL n b
 | .iface _ v => v.ok n
 | .agg cs => okL n cs
 | .tup cs => okL n cs
 | _ => true
def okL (n : Nat) : List EV → Bool
 | [] => true
 | x :: xs => x.ok n && okL n xs
end
theorem ah6 {n : Nat} : ∀ {l : List EV}, okL n l = true ↔ ∀ x ∈ l, x.ok n = true
 | [] => by simp [okL]
 | x :: xs => by simp [okL, ah6 (l := xs)]
theorem bw6 {n : Nat} {e : EV} (h : e.ok n = true) : ∀ x ∈ e.cells, x.ok n = true := by
 unfold EV.cells
 split
 ·exact ah6.1 (by simpa [EV.ok] using h)
 ·simpa using h
theorem RV.trunc {φ : Nat → Nat} {N n : Nat} {I : Nat → Prop} {w : World} {x : EV} {v : Value} (h : RV φ N I w x v) (ho : x.ok n = true) : RV φ n I w x v := by
 induction h with
 | undef v => exact .undef v
 | bool b => exact .bool b
 | int k n => exact .int k n
 | str s => exact .str s
 | nilptr => exact .nilptr
 | ptr b sz i j hb => exact .ptr b sz i j (by simpa [EV.ok] using ho)
 | iptr cells j B o c T fr hB hb hs' _ ih =>
  exact .iptr cells j B o c T fr hB hb hs' fun k x v hx hv => ih k x v hx hv (ah6.1 (by simpa [EV.ok] using ho) x (List.mem_of_getElem? hx))
 | nilsl => exact .nilsl
 | zsl a => exact .zsl a
 | imm sz es B o cap c T fr hB hb hs' hc hz _ ih =>
  exact .imm sz es B o cap c T fr hB hb hs' hc hz fun i j e x v he hx hv => ih i j e x v he hx hv
   (bw6 (ah6.1 (by simpa [EV.ok] using ho) e (List.mem_of_getElem? he)) x (List.mem_of_getElem? hx))
 | imm0 sz a => exact .imm0 sz a
 | own0 b sz off a hb => exact .own0 b sz off a (by simpa [EV.ok] using ho)
 | own b sz off len cap n T hb hsh hn hc => exact .own b sz off len cap n T (by simpa [EV.ok] using ho) hsh hn hc
 | nilfn => exact .nilfn
 | func f first cap vf vc h1 h2 _ _ ih1 ih2 =>
  simp only [EV.ok, Bool.and_eq_true] at ho
  exact .func f first cap vf vc h1 h2 (fun k x v hx hv => ih1 k x v hx hv (ah6.1 ho.1 x (List.mem_of_getElem? hx)))
   (fun k x v hx hv => ih2 k x v hx hv (ah6.1 ho.2 x (List.mem_of_getElem? hx)))
 | nilif => exact .nilif
 | iface t x v _ ih => exact .iface t x v (ih (by simpa [EV.ok] using ho))
 | nilmap => exact .nilmap
 | map b hb => exact .map b (by simpa [EV.ok] using ho)
 | agg cs vs hl _ ih => exact .agg cs vs hl fun k x v hx hv => ih k x v hx hv (ah6.1 (by simpa [EV.ok] using ho) x (List.mem_of_getElem? hx))
 | tup cs vs hl _ ih => exact .tup cs vs hl fun k x v hx hv => ih k x v hx hv (ah6.1 (by simpa [EV.ok] using ho) x (List.mem_of_getElem? hx))
theorem RB.mono {φ φ' : Nat → Nat} {N N' : Nat} {I I' : Nat → Prop} {w w' : World} {B : Nat} (hN : N ≤ N') (hφ : ∀ i, i < N → φ' i = φ i) (hI : ∀ B, I B → I' B)
  (hk : ∀ B, I B → w'.heap[B]? = w.heap[B]?) (hs : ∀ b, b < N → ∀ T n, w.shape? (φ b) = some (T, n) → w'.shape? (φ b) = some (T, n))
  (hB : w'.heap[B]? = w.heap[B]?) {x : EB} (h : RB φ N I w B x) : RB φ' N' I' w' B x := by
 cases x with
 | row sz es =>
  obtain ⟨c, T, h1, h2, h3, h4⟩ := h
  exact ⟨c, T, hB.trans h1, h2, h3, fun i j e x v he hx hv => (h4 i j e x v he hx hv).mono hN hφ hI hk hs⟩
 | map es =>
  obtain ⟨ms, clock, h1, h2, h3⟩ := h
  exact ⟨ms, clock, hB.trans h1, h2, fun i e m he hm => ⟨(h3 i e m he hm).1.mono hN hφ hI hk hs, (h3 i e m he hm).2.mono hN hφ hI hk hs⟩⟩
 | it s p => exact hB.trans h
theorem aa3 {α : Type} {l : List α} {i : Nat} {x : α} (h : l[i]? = some x) : i < l.length := (List.getElem?_eq_some_iff.1 h).1
theorem aw7 (w : World) (o : Obj) (i : Nat) (h : i < w.heap.size) : (w.alloc o).heap[i]? = w.heap[i]? := by
 show (w.heap.push o)[i]? = w.heap[i]?
 rw [Array.getElem?_push, if_neg (Nat.ne_of_lt h)]
theorem aw8 (w : World) (o : Obj) : (w.alloc o).heap[w.heap.size]? = some o := by
 show (w.heap.push o)[w.heap.size]? = some o
 simp
def up (φ : Nat → Nat) (n B : Nat) : Nat → Nat := fun i => if i = n then B else φ i
theorem ba4 {φ : Nat → Nat} {n B i : Nat} (h : i < n) : up φ n B i = φ i := by simp [up, Nat.ne_of_lt h]
theorem bd6 {φ : Nat → Nat} {n B : Nat} : up φ n B n = B := by simp [up]
theorem bb5 {w : World} {o : Obj} {B : Nat} (h : B < w.heap.size) : (w.alloc o).shape? B = w.shape? B := by
 simp [World.shape?, aw7 w o B h]
theorem bu7 {w : World} {o : Obj} (h : melt o = true) (a : Addr) : (w.alloc o).frozen? a = w.frozen? a := by
 by_cases hb : a.block = w.heap.size
 ·have e1 : (w.alloc o).heap[a.block]? = some o := by rw [hb]; exact aw8 w o
  have e2 : w.heap[a.block]? = none := by rw [hb]; simp
  unfold World.frozen?
  rw [e1, e2]
  cases o <;> simp [melt] at h ⊢
  subst h
  simp
 ·unfold World.frozen?
  have e : (w.alloc o).heap[a.block]? = w.heap[a.block]? := by
   show (w.heap.push o)[a.block]? = w.heap[a.block]?
   rw [Array.getElem?_push, if_neg hb]
  rw [e]
theorem bl6 (φ : Nat → Nat) (I : Nat → Prop) (H : Heap) (w : World) (o : Obj) (x : EB) (hm : melt o = true := by rfl) :
  Evo φ I H w (up φ H.length w.heap.size) I (H ++ [some x]) (w.alloc o) where
 size := by simp
 shape B hB := bb5 hB
 keep B hB _ := aw7 w o B hB
 imm B h := h
 phi i hi := ba4 hi
 len := by simp
 own B h := by
  obtain ⟨b, y, hb, e⟩ := h
  have hb' := aa3 hb
  simp only [List.length_append, List.length_cons, List.length_nil] at hb'
  by_cases hlt : b < H.length
  ·rw [ba4 hlt] at e
   exact .inl ⟨b, y, by rwa [List.getElem?_append_left hlt] at hb, e⟩
  ·obtain rfl : b = H.length := by omega
   rw [bd6] at e
   exact .inr (by omega)
 immf B h := .inl h
 tape := rfl
 os := rfl
 out := rfl
 froz a _ := bu7 hm a
theorem bq1 {γ : Nat → EV} {φ : Nat → Nat} {I : Nat → Prop} {H : Heap} {w : World} {o : Obj} {x : EB} (h : RH γ φ I H w)
  (hx : RB (up φ H.length w.heap.size) (H.length + 1) I (w.alloc o) w.heap.size x) : RH γ (up φ H.length w.heap.size) I (H ++ [some x]) (w.alloc o) where
 glob g := (h.glob g).mono (Nat.le_refl 0) (fun i hi => absurd hi (Nat.not_lt_zero i)) (fun _ h => h) (fun B hB => aw7 w o B (h.imm B hB)) (fun b hb => absurd hb (Nat.not_lt_zero b))
 blk b y hb := by
  have hb' := aa3 hb
  simp only [List.length_append, List.length_cons, List.length_nil] at hb' ⊢
  by_cases hlt : b < H.length
  ·rw [List.getElem?_append_left hlt] at hb
   rw [ba4 hlt]
   exact (h.blk b y hb).mono (by omega) (fun i hi => ba4 hi) (fun _ h => h) (fun B hB => aw7 w o B (h.imm B hB))
    (fun b _ _ _ hs => (bb5 (au9 hs)).trans hs) (aw7 w o _ (h.lt b y hb))
  ·obtain rfl : b = H.length := by omega
   rw [bd6]
   simp at hb
   exact hb ▸ hx
 inj b b' y y' hb hb' e := by
  have h1 := aa3 hb
  have h2 := aa3 hb'
  simp only [List.length_append, List.length_cons, List.length_nil] at h1 h2
  by_cases l1 : b < H.length <;> by_cases l2 : b' < H.length
  ·rw [ba4 l1, ba4 l2] at e
   rw [List.getElem?_append_left l1] at hb
   rw [List.getElem?_append_left l2] at hb'
   exact h.inj b b' y y' hb hb' e
  ·obtain rfl : b' = H.length := by omega
   rw [ba4 l1, bd6] at e
   rw [List.getElem?_append_left l1] at hb
   have := h.lt b y hb
   omega
  ·obtain rfl : b = H.length := by omega
   rw [ba4 l2, bd6] at e
   rw [List.getElem?_append_left l2] at hb'
   have := h.lt b' y' hb'
   omega
  ·omega
 imm B hB := by have := h.imm B hB; simp; omega
 dis b y hb := by
  have h1 := aa3 hb
  simp only [List.length_append, List.length_cons, List.length_nil] at h1
  by_cases l1 : b < H.length
  ·rw [List.getElem?_append_left l1] at hb
   rw [ba4 l1]
   exact h.dis b y hb
  ·obtain rfl : b = H.length := by omega
   rw [bd6]
   intro hI
   exact Nat.lt_irrefl _ (h.imm _ hI)
 lt b y hb := by
  have h1 := aa3 hb
  simp only [List.length_append, List.length_cons, List.length_nil] at h1
  by_cases l1 : b < H.length
  ·rw [List.getElem?_append_left l1] at hb
   rw [ba4 l1]
   have := h.lt b y hb
   simp; omega
  ·obtain rfl : b = H.length := by omega
   rw [bd6]
   simp
theorem ay8 {w : World} {g B : Nat} {c c' : Array Value} {T : TypeId} {fr : Nat × Nat} (hg : w.heap[g]? = some (.cells c T fr)) (hs : c'.size = c.size) :
  (w.setRow g c').shape? B = w.shape? B := by
 by_cases e : B = g
 ·subst e
  simp [World.shape?, setRow_heap w B c c' T fr hg, hg, hs]
 ·simp [World.shape?, setRow_other w g B c' e]
theorem br4 {w : World} {g : Nat} {c c' : Array Value} {T : TypeId} {fr : Nat × Nat} (hg : w.heap[g]? = some (.cells c T fr)) (a : Addr) : (w.setRow g c').frozen? a = w.frozen? a := by
 unfold World.frozen?
 by_cases e : a.block = g
 ·rw [e, setRow_heap w g c c' T fr hg, hg]
 ·rw [setRow_other w g a.block c' e]
theorem ax7 {φ : Nat → Nat} {I : Nat → Prop} {H : Heap} {w : World} {b : Nat} {x y : EB} {c c' : Array Value} {T : TypeId} {fr : Nat × Nat}
  (hb : H[b]? = some (some x)) (hg : w.heap[φ b]? = some (.cells c T fr)) (hs : c'.size = c.size) : Evo φ I H w φ I (H.set b (some y)) (w.setRow (φ b) c') where
 size := by simp
 shape B _ := ay8 hg hs
 keep B _ hn := setRow_other w (φ b) B c' fun e => hn ⟨b, x, hb, e.symm⟩
 imm B h := h
 phi i _ := rfl
 len := by simp
 own B h := by
  obtain ⟨k, z, hk, e⟩ := h
  by_cases hkb : b = k
  ·subst hkb; exact .inl ⟨b, x, hb, e⟩
  ·rw [List.getElem?_set_ne hkb] at hk; exact .inl ⟨k, z, hk, e⟩
 immf B h := .inl h
 tape := rfl
 os := rfl
 out := rfl
 froz a _ := br4 hg a
theorem bq0 {γ : Nat → EV} {φ : Nat → Nat} {I : Nat → Prop} {H : Heap} {w : World} {b : Nat} {x y : EB} {c c' : Array Value} {T : TypeId} {fr : Nat × Nat}
  (h : RH γ φ I H w) (hb : H[b]? = some (some x)) (hg : w.heap[φ b]? = some (.cells c T fr)) (hs : c'.size = c.size)
  (hy : RB φ H.length I (w.setRow (φ b) c') (φ b) y) : RH γ φ I (H.set b (some y)) (w.setRow (φ b) c') where
 glob g := (h.glob g).mono (Nat.le_refl 0) (fun i hi => absurd hi (Nat.not_lt_zero i)) (fun _ h => h)
  (fun B hB => setRow_other w (φ b) B c' fun e => h.dis b x hb (e ▸ hB)) (fun b hb => absurd hb (Nat.not_lt_zero b))
 blk k z hk := by
  rw [List.length_set]
  by_cases hkb : b = k
  ·subst hkb
   rw [List.getElem?_set_self (aa3 hb)] at hk
   simp only [Option.some.injEq] at hk
   exact hk ▸ hy
  ·rw [List.getElem?_set_ne hkb] at hk
   exact (h.blk k z hk).mono (Nat.le_refl _) (fun _ _ => rfl) (fun _ h => h) (fun B hB => setRow_other w (φ b) B c' fun e => h.dis b x hb (e ▸ hB))
    (fun _ _ _ _ hs' => (ay8 hg hs).trans hs') (setRow_other w (φ b) _ c' fun e => hkb (h.inj b k x z hb hk e.symm))
 inj k k' z z' hk hk' e := by
  have f : ∀ {k : Nat} {z : EB}, (H.set b (some y))[k]? = some (some z) → ∃ z', H[k]? = some (some z') := fun {k z} hk => by
   by_cases hkb : b = k
   ·subst hkb; exact ⟨x, hb⟩
   ·rw [List.getElem?_set_ne hkb] at hk; exact ⟨z, hk⟩
  obtain ⟨u, hu⟩ := f hk
  obtain ⟨u', hu'⟩ := f hk'
  exact h.inj k k' u u' hu hu' e
 imm B hB := by have := h.imm B hB; simpa using this
 dis k z hk := by
  by_cases hkb : b = k
  ·subst hkb; exact h.dis b x hb
  ·rw [List.getElem?_set_ne hkb] at hk; exact h.dis k z hk
 lt k z hk := by
  by_cases hkb : b = k
  ·subst hkb; simpa using h.lt b x hb
  ·rw [List.getElem?_set_ne hkb] at hk; simpa using h.lt k z hk
end Abs
