/- A part. -/
import Derived.Test.YtddgppmcbjjliaaGreatDoorDenRow2
import Derived.Test.YtddgppmcbjjliaaGreatDoorDtA
namespace Abs
open Go Go.ChangeShapes Go.WideShapes
section
variable {P : Program}
theorem shape_dfa {D : Nat} {t c s1 s2 i0 a u8 : TypeId} {fs gs : Array Field} {es : List EV} (hu : P.underlying t = some (.struct fs)) (hts : fs.toList.map (·.type) = [c, s2, s1])
  (hc : P.underlying c = some (.struct gs)) (hgs : gs.toList.map (·.type) = [a, i0]) (ha : P.underlying a = some (.array 256 u8)) (hu8 : P.underlying u8 = some (.int .u8))
  (h1 : P.underlying s1 = some (.slice i0)) (h1i : P.underlying i0 = some (.int .i64)) (c1 : P.cellsOf s1 = 1) (ci : P.cellsOf i0 = 1) (h2 : P.underlying s2 = some (.slice s1)) (c2 : P.cellsOf s2 = 1)
  (h : Shape P (D + 4) t es) : ∃ d : DF, True ∧ packT P t es = d.E := by
 obtain ⟨hp, l, rfl, hl, hx⟩ := shape_fields hu hts h
 rw [hp]
 match l, hl with
 | [a0, a1, a2], _ =>
  obtain ⟨x0, l0⟩ := hx 0 a0 c rfl rfl
  obtain ⟨x1, l1⟩ := hx 1 a1 s2 rfl rfl
  obtain ⟨x2, l2⟩ := hx 2 a2 s1 rfl rfl
  have ag : ∀ {t e : TypeId}, P.underlying t = some (.slice e) → aggT P t = false := fun h => by simp [aggT, h, aggD]
  have one : ∀ {ti : TypeId} {c : List EV}, aggT P ti = false → c.length = 1 → ∃ y, c = [y] ∧ packT P ti c = y := fun {ti c} ha hl => ⟨_, pack_one ha hl, rfl⟩
  obtain ⟨fx, rows, h3x, h3l, h3f⟩ := shape_sl_intss h2 h1 h1i c1 ci x1
  obtain ⟨tags, h4⟩ := shape_sl_ints h1 h1i ci x2
  obtain ⟨y1, rfl, k1⟩ := one (ag h2) (l1.trans c2)
  obtain ⟨y2, rfl, k2⟩ := one (ag h1) (l2.trans c1)
  rw [k1] at h3x
  rw [k2] at h4
  obtain ⟨_, m, rfl, hm, hy⟩ := shape_fields hc hgs x0
  match m, hm with
  | [b0, b1], _ =>
   obtain ⟨z0, _⟩ := hy 0 b0 a rfl rfl
   obtain ⟨z1, q1⟩ := hy 1 b1 i0 rfl rfl
   obtain ⟨of, rfl, ho⟩ := shape_ints ha hu8 wf_u8 (by omega) z0
   obtain ⟨n, _, _, hn⟩ := shape_i64 h1i z1
   obtain ⟨y3, rfl, k3⟩ := one (ti := i0) (by simp [aggT, h1i, aggD]) (q1.trans ci)
   rw [k3] at hn
   subst hn
   refine ⟨⟨of, n, y1, y2, fx, rows, tags, fun b _ => ho b, h3x, h3l, h3f, h4⟩, trivial, ?_⟩
   simp [DF.E, dfc]
end
end Abs
