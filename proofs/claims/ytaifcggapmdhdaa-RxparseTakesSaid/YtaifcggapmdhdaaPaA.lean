/- A part. -/
import Derived.Test.YtaifcggapmdhdaaTrD
import Derived.Test.YtaifcggapmdhdaaOctsE
set_option linter.all false
namespace Abs
open Go
set_option maxRecDepth 20000
theorem pset {H : Heap} {k : Nat} (hk : k < H.length) : (∀ b : Option EB, (H.set k b)[k]? = some b) ∧ (∀ b c : Option EB, (H.set k b).set k c = H.set k c) ∧ (∀ (b : Option EB) (G : Heap), (H.set k b ++ G)[k]? = some b) ∧ (∀ (b c : Option EB) (G : Heap), (H.set k b ++ G).set k c = H.set k c ++ G) ∧ (∀ (b : Option EB) (G : Heap), (H ++ G).set k b = H.set k b ++ G) ∧ (∀ b : Option EB, (H.set k b).length = H.length) :=
 ⟨fun b => List.getElem?_set_self hk, fun b c => List.set_set .., fun b G => by rw [List.getElem?_append_left (by simpa using hk), List.getElem?_set_self hk], fun b c G => by rw [List.set_append_left _ _ (by simpa using hk), List.set_set], fun b G => List.set_append_left _ _ hk, fun b => List.length_set⟩
abbrev PB (T : List UInt8) (i op : Nat) : Option EB := some (.row 4 [.agg [.str T, .int .i64 (i : Nat), .int .i64 (op : Nat), .nilsl]])
def Pr (T : List UInt8) : Prop := T.length ≤ 400 ∧ ∀ b ∈ T, 32 ≤ b.toNat ∧ b.toNat ≤ 126
section
variable {E : Env} [R : ParR E] {T : List UInt8} {i op k : Nat} {H : Heap}
theorem more_den (hT : Pr T) (hi : i ≤ T.length) (hk : H[k]? = some (PB T i op)) : den E R.n_rxparse_parser_more [.ptr k 4 0 0] H = some (.ret (.bool (decide (i < T.length))), H) := by
 refine den_of R.d_rxparse_parser_more (by simp) ?_
 unfold Gn.rxparse_parser_more Gn.rxparse_parser_more_r
 have hl := hT.1
 by_cases hlt : i < T.length
 ·obtain ⟨b, hb⟩ := get_some hlt
  have hp := hT.2 b (List.mem_of_getElem? hb)
  rw [decide_eq_true hlt]
  repeat' first | (simp (disch := first | omega | assumption) only [go_sem, simprocAttr, *]) | refine HG_split (fun hb=>?_) fun hb=>?_ | refine HC_split (fun hb=>?_) fun hb=>?_
  all_goals (try simp only [FX] at *)
  all_goals first | omega | exact finV_same rfl rfl
 ·rw [decide_eq_false hlt]
  repeat' first | (simp (disch := first | omega | assumption) only [go_sem, simprocAttr, *]) | refine HG_split (fun hb=>?_) fun hb=>?_ | refine HC_split (fun hb=>?_) fun hb=>?_
  all_goals (try simp only [FX] at *)
  all_goals first | omega | exact finV_same rfl rfl
theorem is_den (hT : Pr T) (hi : i ≤ T.length) (hk : H[k]? = some (PB T i op)) (b : Nat) (hb : b < 256) : den E R.n_rxparse_parser_is [.ptr k 4 0 0, .int .u8 b] H = some (.ret (.bool (decide (T[i]? = some (UInt8.ofNat b)))), H) := by
 have hm := more_den (R := R) hT hi hk
 have hl := hT.1
 refine den_of R.d_rxparse_parser_is (by simp) ?_
 unfold Gn.rxparse_parser_is Gn.rxparse_parser_is_r
 by_cases hlt : i < T.length
 ·rw [decide_eq_true hlt] at hm
  obtain ⟨c, hc⟩ := get_some hlt
  have hc8 : c.toNat < 256 := c.toNat_lt
  by_cases e : c.toNat = b
  ·have e2 : T[i]? = some (UInt8.ofNat b) := by rw [hc, ← e, UInt8.ofNat_toNat]
   rw [decide_eq_true e2]
   clear e2
   repeat' first | (simp (disch := first | omega | assumption) only [go_sem, simprocAttr, *]) | refine HG_split (fun hb=>?_) fun hb=>?_ | refine HC_split (fun hb=>?_) fun hb=>?_
   all_goals (try simp only [FX] at *)
   all_goals first | omega | exact finV_same rfl rfl
  ·have e2 : ¬T[i]? = some (UInt8.ofNat b) := by
    rw [hc, Option.some.injEq]
    intro e3
    rw [e3, UInt8.toNat_ofNat'] at e
    omega
   rw [decide_eq_false e2]
   clear e2
   have hq : ((c.toNat : Int) == (b : Int)) = false := by simp; omega
   repeat' first | (simp (disch := first | omega | assumption) only [go_sem, simprocAttr, *]) | refine HG_split (fun hb=>?_) fun hb=>?_ | refine HC_split (fun hb=>?_) fun hb=>?_
   all_goals (try simp only [FX] at *)
   all_goals first | omega | exact finV_same rfl rfl
 ·rw [decide_eq_false hlt] at hm
  have e2 : ¬T[i]? = some (UInt8.ofNat b) := by rw [List.getElem?_eq_none (by omega)]; simp
  rw [decide_eq_false e2]
  clear e2
  repeat' first | (simp (disch := first | omega | assumption) only [go_sem, simprocAttr, *]) | refine HG_split (fun hb=>?_) fun hb=>?_ | refine HC_split (fun hb=>?_) fun hb=>?_
  all_goals (try simp only [FX] at *)
  all_goals first | omega | exact finV_same rfl rfl
theorem take_yes (hT : Pr T) (hk : H[k]? = some (PB T i op)) {c : UInt8} (hc : T[i]? = some c) : den E R.n_rxparse_parser_take [.ptr k 4 0 0, .int .u8 c.toNat] H = some (.ret (.bool true), H.set k (PB T (i + 1) op)) := by
 have hi := get_lt hc
 have hl := hT.1
 have hkl := get_lt hk
 have hs := is_den (R := R) hT (Nat.le_of_lt hi) hk c.toNat c.toNat_lt
 rw [UInt8.ofNat_toNat, decide_eq_true hc] at hs
 refine den_of R.d_rxparse_parser_take (by simp) ?_
 unfold Gn.rxparse_parser_take Gn.rxparse_parser_take_r
 repeat' first | (simp (disch := first | omega | assumption) only [go_sem, simprocAttr, *]) | refine HG_split (fun hb=>?_) fun hb=>?_ | refine HC_split (fun hb=>?_) fun hb=>?_
 all_goals (try simp only [FX] at *)
 all_goals first | omega | skip
 have := finV_set (H := H) (k := k) (b := PB T (i + 1) op) (G := []) (v := .bool true) (K := .ret) (r := .ret (.bool true)) rfl (fz_ok rfl) rfl rfl
 rwa [List.append_nil] at this
theorem take_no (hT : Pr T) (hi : i ≤ T.length) (hk : H[k]? = some (PB T i op)) (b : Nat) (hb : b < 256) (hn : T[i]? ≠ some (UInt8.ofNat b)) : den E R.n_rxparse_parser_take [.ptr k 4 0 0, .int .u8 b] H = some (.ret (.bool false), H) := by
 have hs := is_den (R := R) hT hi hk b hb
 rw [decide_eq_false hn] at hs
 clear hn
 refine den_of R.d_rxparse_parser_take (by simp) ?_
 unfold Gn.rxparse_parser_take Gn.rxparse_parser_take_r
 repeat' first | (simp (disch := first | omega | assumption) only [go_sem, simprocAttr, *]) | refine HG_split (fun hb=>?_) fun hb=>?_ | refine HC_split (fun hb=>?_) fun hb=>?_
 all_goals (try simp only [FX] at *)
 all_goals first | omega | exact finV_same rfl rfl
theorem must_den (hT : Pr T) (hk : H[k]? = some (PB T i op)) {c : UInt8} (hc : T[i]? = some c) : den E R.n_rxparse_parser_must [.ptr k 4 0 0, .int .u8 c.toNat] H = some (.ret (.tup []), H.set k (PB T (i + 1) op)) := by
 have ht := take_yes (R := R) hT hk hc
 refine den_of R.d_rxparse_parser_must (by simp) ?_
 unfold Gn.rxparse_parser_must Gn.rxparse_parser_must_r
 repeat' first | (simp (disch := first | omega | assumption) only [go_sem, simprocAttr, *]) | refine HG_split (fun hb=>?_) fun hb=>?_ | refine HC_split (fun hb=>?_) fun hb=>?_
 all_goals (try simp only [FX] at *)
 have := finV_set (H := H) (k := k) (b := PB T (i + 1) op) (G := []) (v := .tup []) (K := .ret) (r := .ret (.tup [])) rfl (fz_ok rfl) rfl rfl
 rwa [List.append_nil] at this
theorem idxB_den (s : List UInt8) (b : Nat) (hb : b < 256) (H : Heap) : den E R.n_strings_IndexByte [.str s, .int .u8 b] H = some (.ret (.int .i64 (Go.Lib.indexByte s (UInt8.ofNat b))), H) := by
 have h1 : den E R.n_internal_stringslite_IndexByte [.str s, .int .u8 b] H = some (.ret (.int .i64 (Go.Lib.indexByte s (UInt8.ofNat b))), H) := by
  refine den_of R.d_internal_stringslite_IndexByte (by simp) ?_
  unfold Gn.internal_stringslite_IndexByte Gn.internal_stringslite_IndexByte_r
  have he : evIdxB (.str s) (.int .u8 b) = some (.int .i64 (Go.Lib.indexByte s (UInt8.ofNat b))) := rfl
  repeat' first | (simp (disch := first | omega | assumption) only [go_sem, simprocAttr, *]) | refine HG_split (fun hb=>?_) fun hb=>?_ | refine HC_split (fun hb=>?_) fun hb=>?_
  exact finV_same rfl rfl
 refine den_of R.d_strings_IndexByte (by simp) ?_
 unfold Gn.strings_IndexByte Gn.strings_IndexByte_r
 repeat' first | (simp (disch := first | omega | assumption) only [go_sem, simprocAttr, *]) | refine HG_split (fun hb=>?_) fun hb=>?_ | refine HC_split (fun hb=>?_) fun hb=>?_
 exact finV_same rfl rfl
theorem pdigit_den (hT : Pr T) (hk : H[k]? = some (PB T i op)) {c : UInt8} (hc : T[i]? = some c) (v : Nat) (hv : Go.Lib.indexByte [48, 49, 50, 51, 52, 53, 54, 55, 56, 57, 97, 98, 99, 100, 101, 102, 65, 66, 67, 68, 69, 70] c = (v : Int)) (hv2 : v ≤ 21) :
  den E R.n_rxparse_parser_digit [.ptr k 4 0 0] H = some (.ret (.int .u8 ((if v > 15 then v - 6 else v : Nat) : Int)), H.set k (PB T (i + 1) op)) := by
 have hi := get_lt hc
 have hl := hT.1
 have hm := more_den (R := R) hT (Nat.le_of_lt hi) hk
 rw [decide_eq_true hi] at hm
 have hx := fun H => idxB_den (R := R) [48, 49, 50, 51, 52, 53, 54, 55, 56, 57, 97, 98, 99, 100, 101, 102, 65, 66, 67, 68, 69, 70] c.toNat c.toNat_lt H
 rw [UInt8.ofNat_toNat, hv] at hx
 clear hv
 have fin : ∀ n : Int, finV H (.int .u8 n) .ret (H.set k (PB T (i + 1) op)) = some (.ret (.int .u8 n), H.set k (PB T (i + 1) op)) := fun n => by
  have := finV_set (H := H) (k := k) (b := PB T (i + 1) op) (G := []) (v := .int .u8 n) (K := .ret) (r := .ret (.int .u8 n)) rfl (fz_ok rfl) rfl rfl
  rwa [List.append_nil] at this
 refine den_of R.d_rxparse_parser_digit (by simp) ?_
 unfold Gn.rxparse_parser_digit Gn.rxparse_parser_digit_r
 unfold Gn.GnP_s1
 by_cases h15 : v > 15
 ·rw [if_pos h15]
  have e : ((v - 6 : Nat) : Int) = (v : Int) - 6 := by omega
  have w : IntKind.u8.wrap ((v : Int) - 6) = (v : Int) - 6 := Abs.wrap_u8 (by omega) (by omega)
  rw [e]
  clear e
  repeat' first | (simp (disch := first | omega | assumption) only [go_sem, simprocAttr, *]) | refine HG_split (fun hb=>?_) fun hb=>?_ | refine HC_split (fun hb=>?_) fun hb=>?_
  all_goals (try simp only [FX] at *)
  all_goals first | omega | exact fin _
 ·rw [if_neg h15]
  have w : IntKind.u8.wrap (v : Int) = (v : Int) := Abs.wrap_u8 (by omega) (by omega)
  repeat' first | (simp (disch := first | omega | assumption) only [go_sem, simprocAttr, *]) | refine HG_split (fun hb=>?_) fun hb=>?_ | refine HC_split (fun hb=>?_) fun hb=>?_
  all_goals (try simp only [FX] at *)
  all_goals first | omega | exact fin _
end
section
variable {E : Env} [R : ParR E] {T : List UInt8} {i op k : Nat} {H : Heap}
theorem kind_x (H : Heap) : den E R.n_rxparse_kindOf [.int .u8 120] H = some (.ret (.tup [.int .i64 2, .int .u8 0]), H) := by
 refine den_of R.d_rxparse_kindOf (by simp) ?_
 unfold Gn.rxparse_kindOf Gn.rxparse_kindOf_r
 repeat' first | (simp (disch := first | omega | assumption) only [go_sem, simprocAttr, *]) | refine HG_split (fun hb=>?_) fun hb=>?_ | refine HC_split (fun hb=>?_) fun hb=>?_
 all_goals (try simp only [FX] at *)
 all_goals first | omega | exact finV_same rfl rfl
theorem escape_den (hT : Pr T) (hk : H[k]? = some (PB T i op)) (h0 : T[i]? = some 92) (h1 : T[i + 1]? = some 120) {c1 c2 : UInt8} (h2 : T[i + 2]? = some c1) (h3 : T[i + 3]? = some c2) (v1 v2 : Nat)
  (e1 : Go.Lib.indexByte [48, 49, 50, 51, 52, 53, 54, 55, 56, 57, 97, 98, 99, 100, 101, 102, 65, 66, 67, 68, 69, 70] c1 = (v1 : Int)) (l1 : v1 ≤ 21) (e2 : Go.Lib.indexByte [48, 49, 50, 51, 52, 53, 54, 55, 56, 57, 97, 98, 99, 100, 101, 102, 65, 66, 67, 68, 69, 70] c2 = (v2 : Int)) (l2 : v2 ≤ 21) (a b : Nat) (ha : (if v1 > 15 then v1 - 6 else v1) = a) (hb : (if v2 > 15 then v2 - 6 else v2) = b) :
  den E R.n_rxparse_parser_escape [.ptr k 4 0 0] H = some (.ret (.int .u8 ((16 * a + b : Nat) : Int)), H.set k (PB T (i + 4) op)) := by
 have hkl := get_lt hk
 obtain ⟨g1, g2, _, _, _, _⟩ := pset hkl
 have hl := hT.1
 have m0 : den E R.n_rxparse_parser_must [.ptr k 4 0 0, .int .u8 92] H = some (.ret (.tup []), H.set k (PB T (i + 1) op)) := must_den hT hk h0
 have hm := more_den (R := R) (H := H.set k (PB T (i + 1) op)) (k := k) hT (Nat.le_of_lt (get_lt h1)) (g1 _)
 rw [decide_eq_true (get_lt h1)] at hm
 have hx := fun H => kind_x (R := R) H
 have d1 := pdigit_den (R := R) (H := H.set k (PB T (i + 2) op)) (k := k) hT (g1 _) h2 v1 e1 l1
 have d2 := pdigit_den (R := R) (H := H.set k (PB T (i + 3) op)) (k := k) hT (g1 _) h3 v2 e2 l2
 rw [g2, ha] at d1
 rw [g2, hb] at d2
 have fin : finV H (.int .u8 ((16 * a + b : Nat) : Int)) .ret (H.set k (PB T (i + 4) op)) = some (.ret (.int .u8 ((16 * a + b : Nat) : Int)), H.set k (PB T (i + 4) op)) := by
  have := finV_set (H := H) (k := k) (b := PB T (i + 4) op) (G := []) (v := .int .u8 ((16 * a + b : Nat) : Int)) (K := .ret) (r := .ret (.int .u8 ((16 * a + b : Nat) : Int))) rfl (fz_ok rfl) rfl rfl
  rwa [List.append_nil] at this
 have ha15 : a ≤ 15 := by rw [← ha]; split <;> omega
 have hb15 : b ≤ 15 := by rw [← hb]; split <;> omega
 clear ha hb e1 e2 h0 hk hx
 have hx := fun H => kind_x (R := R) H
 have s1 := g1 (PB T (i + 1) op)
 have s2 := g2 (PB T (i + 1) op)
 have hi1 := get_lt h1
 have w0 : IntKind.i64.wrap (((i + 1 : Nat) : Int) + 1) = ((i + 2 : Nat) : Int) := by rw [Abs.wrap_i64 (by omega) (by omega)]; rfl
 have w1 : IntKind.u8.wrap (16 * (a : Int)) = 16 * (a : Int) := Abs.wrap_u8 (by omega) (by omega)
 have w2 : IntKind.u8.wrap (16 * (a : Int) + 0) = 16 * (a : Int) := by rw [Abs.wrap_u8 (by omega) (by omega)]; omega
 have w3 : IntKind.u8.wrap (16 * (a : Int) + (b : Int)) = ((16 * a + b : Nat) : Int) := by rw [Abs.wrap_u8 (by omega) (by omega)]; omega
 refine den_of R.d_rxparse_parser_escape (by simp) ?_
 unfold Gn.rxparse_parser_escape Gn.rxparse_parser_escape_r
 have n120 : ((120 : UInt8).toNat : Int) = 120 := rfl
 repeat' first | (simp (disch := first | omega | assumption) only [go_sem, simprocAttr, *]) | refine HG_split (fun hb=>?_) fun hb=>?_ | refine HC_split (fun hb=>?_) fun hb=>?_
 all_goals (try simp only [FX] at *)
 all_goals first | omega | exact fin | skip
theorem byte_den (w : Nat → Nat) (H : Heap) : den E R.n_rx_Byte [.agg [.int .u64 (w 0 : Nat), .int .u64 (w 1 : Nat), .int .u64 (w 2 : Nat), .int .u64 (w 3 : Nat)]] H = some (.ret (RT.mk 1 w .nilsl [] 0 0).E, H) := by
 refine den_of R.d_rx_Byte (by simp) ?_
 unfold Gn.rx_Byte Gn.rx_Byte_r
 unfold RT.E
 repeat' first | (simp (disch := first | omega | assumption) only [go_sem, simprocAttr, *]) | refine HG_split (fun hb=>?_) fun hb=>?_ | refine HC_split (fun hb=>?_) fun hb=>?_
 all_goals (try simp only [FX] at *)
 all_goals exact finV_drop rfl rfl
end
inductive RT.Sml : RT → Prop where
 | mk (k : Int) (w : Nat → Nat) (x : EV) (ts : List RT) (lo hi : Int) : ts.length ≤ 100000 → (∀ t ∈ ts, RT.Sml t) → RT.Sml (.mk k w x ts lo hi)
mutual
def cpT : RT → RT
 | .mk k w _ ts lo hi => .mk k w (.imm 8 ((cpL ts).map RT.E)) (cpL ts) lo hi
def cpL : List RT → List RT
 | [] => []
 | t :: ts => cpT t :: cpL ts
end
theorem cpL_map : ∀ ts : List RT, cpL ts = ts.map cpT
 | [] => by simp [cpL]
 | t :: ts => by simp [cpL, cpL_map ts]
theorem okL_trees {ts : List RT} (h : ∀ t ∈ ts, t.Ok) (n : Nat) : okL n (ts.map RT.E) = true := by
 induction ts with
 | nil => rfl
 | cons t ts ih =>
  rw [List.map_cons]
  simp only [okL, Bool.and_eq_true]
  exact ⟨RT.ok (h t (by simp)) n, ih fun q hq => h q (by simp [hq])⟩
theorem cpT_ok {t : RT} (h : t.Ok) (hs : t.Sml) : (cpT t).Ok := by
 induction h with
 | mk k w x ts lo hi hw hx hts ih =>
  cases hs with
  | mk _ _ _ _ _ _ h1 h2 =>
  rw [cpT, cpL_map]
  have hall : ∀ t ∈ ts.map cpT, t.Ok := fun t ht => by
   obtain ⟨q, hq, rfl⟩ := List.mem_map.1 ht
   exact ih q hq (h2 q hq)
  exact .mk _ _ _ _ _ _ hw (.imm (fun n => okL_trees hall n) (by simp; omega)) hall
abbrev zRe : EV := .agg [.int .i64 0, .int .u64 0, .int .u64 0, .int .u64 0, .int .u64 0, .nilsl, .int .i64 0, .int .i64 0]
theorem make_re (n : Nat) (hn : n ≤ 100000) (W : Heap) : evMake 8 80 zRe (.int .i64 n) (.int .i64 n) W = some (.own W.length 8 0 n, W ++ [some (.row 8 (List.replicate n zRe))]) := by
 unfold evMake
 simp only
 rw [if_pos ⟨by omega, by omega, by omega, by omega⟩, Int.toNat_natCast]
def cpRow (ts : List RT) (i : Nat) : List EV := (cpL (ts.take i)).map RT.E ++ List.replicate (ts.length - i) zRe
theorem cpRow_len (ts : List RT) (i : Nat) (hi : i ≤ ts.length) : (cpRow ts i).length = ts.length := by
 unfold cpRow
 rw [List.length_append, List.length_map, cpL_map, List.length_map, List.length_take, List.length_replicate]
 omega
theorem cpRow_at {ts : List RT} {i : Nat} (h : i < ts.length) : (cpRow ts i)[i]? = some zRe := by
 unfold cpRow
 have hl : ((cpL (ts.take i)).map RT.E).length = i := by rw [List.length_map, cpL_map, List.length_map, List.length_take]; omega
 rw [List.getElem?_append_right (by omega), hl, Nat.sub_self, List.getElem?_replicate, if_pos (by omega)]
theorem cpRow_set {ts : List RT} {i : Nat} {t : RT} (h : ts[i]? = some t) : (cpRow ts i).set i (cpT t).E = cpRow ts (i + 1) := by
 have hi := get_lt h
 unfold cpRow
 have hl : ((cpL (ts.take i)).map RT.E).length = i := by rw [List.length_map, cpL_map, List.length_map, List.length_take]; omega
 rw [List.set_append_right _ _ (by omega), hl, Nat.sub_self, List.take_add_one, h, show ts.length - i = (ts.length - (i + 1)) + 1 by omega, List.replicate_succ, cpL_map, cpL_map]
 simp
theorem cpRow_full (ts : List RT) : cpRow ts ts.length = (cpL ts).map RT.E := by unfold cpRow; rw [List.take_length, Nat.sub_self]; simp
theorem fz_re {H : Heap} {b0 b1 : Option EB} {k : Int} {w : Nat → Nat} {lo hi : Int} {es : List EV} {n : Nat} (hn : es.length = n) (ho : okL H.length es = true) :
  Abs.fz H.length (H ++ [b0, b1, some (.row 8 es)]) 8 (.agg [.int .i64 k, .int .u64 (w 0 : Nat), .int .u64 (w 1 : Nat), .int .u64 (w 2 : Nat), .int .u64 (w 3 : Nat), .own (H.length + 2) 8 0 n, .int .i64 lo, .int .i64 hi]) =
   some (.agg [.int .i64 k, .int .u64 (w 0 : Nat), .int .u64 (w 1 : Nat), .int .u64 (w 2 : Nat), .int .u64 (w 3 : Nat), .imm 8 es, .int .i64 lo, .int .i64 hi]) := by
 have hg : (H ++ [b0, b1, some (EB.row 8 es)])[H.length + 2]? = some (some (.row 8 es)) := by rw [List.getElem?_append_right (by omega), Nat.add_sub_cancel_left]; rfl
 have hm : mapO (Abs.fz H.length (H ++ [b0, b1, some (.row 8 es)]) 6) es = some es := mapO_same fun x hx => fz_ok (by
  have : ∀ {l : List EV}, okL H.length l = true → ∀ x ∈ l, x.ok H.length = true := by
   intro l
   induction l with
   | nil => intro _ x hx; simp at hx
   | cons a l ih =>
    intro h x hx
    simp only [okL, Bool.and_eq_true] at h
    rcases List.mem_cons.1 hx with rfl | hx
    ·exact h.1
    ·exact ih h.2 x hx
  exact this ho x hx)
 have f5 : Abs.fz H.length (H ++ [b0, b1, some (.row 8 es)]) 7 (.own (H.length + 2) 8 0 n) = some (.imm 8 es) := by
  unfold Abs.fz
  rw [if_neg (by simp [EV.ok])]
  simp only [hg, if_pos (show H.length ≤ H.length + 2 by omega)]
  rw [if_pos ⟨trivial, by omega⟩, List.drop_zero, List.take_of_length_le (by omega), hm]
  rfl
 have fi : ∀ (q : IntKind) (z : Int), Abs.fz H.length (H ++ [b0, b1, some (.row 8 es)]) 7 (.int q z) = some (.int q z) := fun q z => fz_ok rfl
 conv => lhs; unfold Abs.fz
 rw [if_neg (by simp [EV.ok, okL])]
 simp only [mapO, fi, f5]
 rfl
def ArgT (H : Heap) (x : EV) (ts : List RT) : Prop := SlV 8 x (ts.map RT.E) ∨ ∃ k, x = .own k 8 0 ts.length ∧ H[k]? = some (some (.row 8 (ts.map RT.E)))
theorem ArgT.len {H : Heap} {x : EV} {ts : List RT} (h : ArgT H x ts) : evLen false x = some ts.length := by
 rcases h with h | ⟨k, rfl, _⟩
 ·rw [h.len, List.length_map]
 ·rfl
theorem ArgT.mono {H : Heap} {x : EV} {ts : List RT} (h : ArgT H x ts) (G : Heap) : ArgT (H ++ G) x ts := by
 rcases h with h | ⟨k, e, hk⟩
 ·exact .inl h
 ·exact .inr ⟨k, e, by rw [List.getElem?_append_left (get_lt hk)]; exact hk⟩
theorem ArgT.at {H : Heap} {x : EV} {ts : List RT} (h : ArgT H x ts) {i : Nat} {q : RT} (hq : ts[i]? = some q) : ∃ p, evElem 8 (i : Int) x = some p ∧ ∀ G, evLoad true 8 p (H ++ G) = some q.E := by
 have hc := RT.cells q
 have ht : List.take 8 q.E.cells = q.E.cells := List.take_of_length_le (by omega)
 have hp : pack true q.E.cells = q.E := by cases q; rfl
 rcases h with h | ⟨k, rfl, hk⟩
 ·refine ⟨_, h.atT hq, fun G => ?_⟩
  simp only [evLoad, List.drop_zero, ht, hp]
  rw [if_pos (by omega)]
 ·have hi := get_lt hq
  refine ⟨.ptr k 8 i 0, by simp [evElem, hi], fun G => ?_⟩
  have := get_lt hk
  have hg : (ts.map RT.E)[i]? = some q.E := by rw [List.getElem?_map, hq]; rfl
  simp only [evLoad, List.getElem?_append_left this, hk, hg, List.drop_zero, ht, hp, if_true]
  rfl
theorem ArgT.one {H : Heap} {x : EV} {ts : List RT} (h : ArgT H x ts) : x.one = true ∧ x.cells = [x] := by
 rcases h with h | ⟨k, rfl, _⟩
 ·exact ⟨h.one.2, h.one.1⟩
 ·exact ⟨rfl, rfl⟩
section
variable {E : Env} [R : ParR E]
theorem copied_gen (kd : Int) (w : Nat → Nat) (x : EV) (ts : List RT) (lo hi : Int) (hn : ts.length ≤ 100000) (H : Heap) (hx : ArgT H x ts) (hts : ∀ t ∈ ts, t.Ok) (hsub : ∀ t ∈ ts, t.Sml) (ih : ∀ t ∈ ts, ∀ H, den E R.n_rx_copied [t.E] H = some (.ret (cpT t).E, H)) :
  den E R.n_rx_copied [(RT.mk kd w x ts lo hi).E] H = some (.ret (cpT (.mk kd w x ts lo hi)).E, H) := by
  have lx := hx.len
  have ox := hx.one.1
  have cx := hx.one.2
  have hmk := fun W => make_re ts.length hn W
  have hcp : ∀ t ∈ ts, (cpT t).Ok := fun t ht => cpT_ok (hts t ht) (hsub t ht)
  have hokL : okL H.length ((cpL ts).map RT.E) = true := okL_trees (fun q hq => by
   rw [cpL_map] at hq
   obtain ⟨t, ht, rfl⟩ := List.mem_map.1 hq
   exact hcp t ht) _
  have hll : ((cpL ts).map RT.E).length = ts.length := by rw [List.length_map, cpL_map, List.length_map]
  rw [cpT]
  refine den_of R.d_rx_copied (by simp) ?_
  unfold Gn.rx_copied Gn.rx_copied_r
  show @Hd E ⟨_⟩ ⟨slots0 [.agg [.int .i64 kd, .int .u64 (w 0 : Nat), .int .u64 (w 1 : Nat), .int .u64 (w 2 : Nat), .int .u64 (w 3 : Nat), x, .int .i64 lo, .int .i64 hi]]⟩ ⟨_⟩ ⟨_⟩
  unfold EV.one at ox
  unfold EV.cells at cx
  repeat' first | (simp (disch := first | omega | assumption) only [go_sem, simprocAttr, *]) | refine HG_split (fun hb=>?_) fun hb=>?_ | refine HC_split (fun hb=>?_) fun hb=>?_
  all_goals (try simp only [FX] at *)
  all_goals first | omega | skip
  refine while_of (ι := Nat) (fun i => i ≤ ts.length) (fun i => ts.length - i) (fun i => [(1, .ptr H.length 8 0 0), (2, .ptr (H.length + 1) 8 0 0), (3, .own (H.length + 2) 8 0 ts.length), (11, .int .i64 ts.length), (12, .int .i64 i)])
   (fun i => H ++ [some (.row 8 [.agg [.int .i64 kd, .int .u64 (w 0 : Nat), .int .u64 (w 1 : Nat), .int .u64 (w 2 : Nat), .int .u64 (w 3 : Nat), x, .int .i64 lo, .int .i64 hi]]), some (.row 8 [zRe]), some (.row 8 (cpRow ts i))]) 0 (by omega) ?_ ?_ ?_
  ·simp (disch := omega) only [go_sem, simprocAttr, Sl]
  ·unfold cpRow; simp [cpL]
  rintro i t hil ht K hK
  simp (disch := omega) only [go_sem, simprocAttr, Sl] at ht
  by_cases hlt : i < ts.length
  ·obtain ⟨q, hq⟩ := get_some hlt
   obtain ⟨p, hp1, hp2⟩ := hx.at hq
   simp (disch := omega) only [go_sem, simprocAttr] at hp2
   have hqm := List.mem_of_getElem? hq
   have hih := ih q hqm
   have hc1 := cpRow_at hlt
   have hc2 := cpRow_set hq
   have hc3 := cpRow_len ts i hil
   have hcl := RT.cells (cpT q)
   have hca : EV.agg (cpT q).E.cells = (cpT q).E := by cases (cpT q); rfl
   have hco : (cpT q).E.cells.all EV.one = true := by
    have := hcp q hqm
    cases hqq : cpT q with
    | mk k' w' x' ts' lo' hi' =>
     rw [hqq] at this
     cases this with
     | mk _ _ _ _ _ _ _ g2 _ => simp [RT.E, EV.cells, EV.one]; exact g2.one.2
   have go := fun s' H' => hK (i + 1) s' H' (by omega) (by omega)
   clear hK ih hcp hokL hll
   generalize (cpT q).E = z at hih hc2 hcl hca hco
   unfold EV.cells at hcl hca hco
   repeat' first | (simp (disch := first | omega | assumption) only [go_sem, simprocAttr, *]) | refine HG_split (fun hb=>?_) fun hb=>?_ | refine HC_split (fun hb=>?_) fun hb=>?_
   all_goals (try simp only [FX] at *)
   all_goals first | omega | skip
   refine go _ _ ?_ rfl
   simp (disch := omega) only [go_sem, simprocAttr, Sl, ht, and_self, cast_succ]
  ·have hie : i = ts.length := by omega
   subst hie
   rw [cpRow_full]
   clear hK ih hcp
   repeat' first | (simp (disch := first | omega | assumption) only [go_sem, simprocAttr, *]) | refine HG_split (fun hb=>?_) fun hb=>?_ | refine HC_split (fun hb=>?_) fun hb=>?_
   all_goals (try simp only [FX] at *)
   all_goals first | omega | skip
   exact finV_fz rfl (fz_re hll hokL) rfl
theorem copied_den {t : RT} (hs : t.Sml) : t.Ok → ∀ H, den E R.n_rx_copied [t.E] H = some (.ret (cpT t).E, H) := by
 induction hs with
 | mk kd w x ts lo hi hn hsub ih =>
  intro hok H
  cases hok with
  | mk _ _ _ _ _ _ hw hx hts => exact copied_gen (R := R) kd w x ts lo hi hn H (.inl hx) hts hsub fun t ht H => ih t ht (hts t ht) H
theorem several_den (kd : Int) (nn : RT) (hnn : nn.Ok) (x : EV) (ts : List RT) (hn : ts.length ≤ 100000) (H : Heap) (hx : ArgT H x ts) (hts : ∀ t ∈ ts, t.Ok) (hsub : ∀ t ∈ ts, t.Sml) :
  den E R.n_rx_several [.int .i64 kd, nn.E, x] H = some (.ret (match ts with | [] => nn | [t] => cpT t | _ => cpT (.mk kd (fun _ => 0) x ts 0 0)).E, H) := by
 have lx := hx.len
 have ox := hx.one.1
 have cx := hx.one.2
 cases hnn with
 | mk k' w' x' ts' lo' hi' g1 g2 g3 =>
 have ox' := g2.one.2
 have cx' := g2.one.1
 refine den_of R.d_rx_several (by simp) ?_
 unfold Gn.rx_several Gn.rx_several_r
 show @Hd E ⟨_⟩ ⟨slots0 [.int .i64 kd, .agg [.int .i64 k', .int .u64 (w' 0 : Nat), .int .u64 (w' 1 : Nat), .int .u64 (w' 2 : Nat), .int .u64 (w' 3 : Nat), x', .int .i64 lo', .int .i64 hi'], x]⟩ ⟨_⟩ ⟨_⟩
 unfold EV.one at ox ox'
 unfold EV.cells at cx cx'
 have h3 : (EV.agg [.int .i64 k', .int .u64 (w' 0 : Nat), .int .u64 (w' 1 : Nat), .int .u64 (w' 2 : Nat), .int .u64 (w' 3 : Nat), x', .int .i64 lo', .int .i64 hi']).ok H.length = true := by simp [EV.ok, okL, g2.ok]
 have boxt : ∀ t : RT, t.Ok → t.E.cells.length = 8 ∧ t.E.cells.all EV.one = true ∧ EV.agg t.E.cells = t.E ∧ List.take 8 t.E.cells = t.E.cells := fun t ht => by
  cases ht with
  | mk _ _ _ _ _ _ _ q2 _ => exact ⟨rfl, by simp [RT.E, EV.cells, EV.one]; exact q2.one.2, rfl, rfl⟩
 cases ts with
 | nil =>
  rw [List.length_nil] at lx
  repeat' first | (simp (disch := first | omega | assumption) only [go_sem, simprocAttr, *]) | refine HG_split (fun hb=>?_) fun hb=>?_ | refine HC_split (fun hb=>?_) fun hb=>?_
  all_goals (try simp only [FX] at *)
  all_goals first | omega | skip
  exact finV_drop h3 rfl
 | cons t ts =>
 cases ts with
 | nil =>
  obtain ⟨p, hp1, hp2⟩ := hx.at (i := 0) rfl
  have hp1' : evElem 8 (0 : Int) x = some p := hp1
  simp (disch := omega) only [go_sem, simprocAttr] at hp2
  have hc := fun H => copied_den (R := R) (hsub t (by simp)) (hts t (by simp)) H
  have hto := cpT_ok (hts t (by simp)) (hsub t (by simp))
  have hok := RT.ok hto H.length
  obtain ⟨b1, b2, b3, b4⟩ := boxt _ hto
  rw [show [t].length = 1 from rfl] at lx
  generalize (cpT t).E = z at hc b1 b2 b3 b4 hok ⊢
  unfold EV.cells at b1 b2 b3 b4
  clear hx hts hsub hp1 boxt hn hto
  repeat' first | (simp (disch := first | omega | assumption) only [go_sem, simprocAttr, *]) | refine HG_split (fun hb=>?_) fun hb=>?_ | refine HC_split (fun hb=>?_) fun hb=>?_
  all_goals (try simp only [FX] at *)
  all_goals first | omega | skip
  exact finV_drop hok rfl
 | cons t2 ts =>
  have hc := fun G => copied_gen (R := R) kd (fun _ => 0) x (t :: t2 :: ts) 0 0 hn (H ++ G) (hx.mono G) hts hsub fun t ht H => copied_den (R := R) (hsub t ht) (hts t ht) H
  have hto : (cpT (.mk kd (fun _ => 0) x (t :: t2 :: ts) 0 0)).Ok := by
   rw [cpT, cpL_map]
   have hall : ∀ q ∈ (t :: t2 :: ts).map cpT, q.Ok := fun q hq => by
    obtain ⟨q', hq', rfl⟩ := List.mem_map.1 hq
    exact cpT_ok (hts q' hq') (hsub q' hq')
   exact .mk _ _ _ _ _ _ (fun i => by simp) (.imm (fun n => okL_trees hall n) (by rw [List.length_map, List.length_map]; omega)) hall
  have hok := RT.ok hto H.length
  obtain ⟨b1, b2, b3, b4⟩ := boxt _ hto
  have l2 : (t :: t2 :: ts).length = ts.length + 2 := rfl
  rw [l2] at lx hn
  have hc2 : ∀ G, den E R.n_rx_copied [.agg [.int .i64 kd, .int .u64 0, .int .u64 0, .int .u64 0, .int .u64 0, x, .int .i64 0, .int .i64 0]] (H ++ G) = some (.ret (cpT (.mk kd (fun _ => 0) x (t :: t2 :: ts) 0 0)).E, H ++ G) := hc
  show @Hd E ⟨_⟩ ⟨_⟩ ⟨_⟩ ⟨finQ H _ (.ret (cpT (.mk kd (fun _ => 0) x (t :: t2 :: ts) 0 0)).E, H)⟩
  generalize (cpT (.mk kd (fun _ => 0) x (t :: t2 :: ts) 0 0)).E = z at hc2 b1 b2 b3 b4 hok ⊢
  unfold EV.cells at b1 b2 b3 b4
  clear hx hts hsub boxt hto hc l2
  repeat' first | (simp (disch := first | omega | assumption) only [go_sem, simprocAttr, *]) | refine HG_split (fun hb=>?_) fun hb=>?_ | refine HC_split (fun hb=>?_) fun hb=>?_
  all_goals (try simp only [FX] at *)
  all_goals first | omega | skip
  exact finV_drop hok rfl
end
def eset (w : Nat → Nat) : EV := .agg [.int .u64 (w 0 : Nat), .int .u64 (w 1 : Nat), .int .u64 (w 2 : Nat), .int .u64 (w 3 : Nat)]
def fullW (_ : Nat) : Nat := 18446744073709551615
structure PaK (E : Env) [R : ParR E] : Prop where
 of : ∀ (b : Nat) (H : Heap), b < 256 → den E R.n_octs_Of [.imm 1 [.int .u8 b]] H = some (.ret (eset (wordsOf [b])), H)
 range : ∀ H, den E R.n_octs_Range [.int .u8 0, .int .u8 255] H = some (.ret (eset fullW), H)
 not : ∀ H, den E R.n_octs_Not [eset fun _ => 0] H = some (.ret (eset fullW), H)
def hexLo (n : Nat) : UInt8 := UInt8.ofNat (if n < 10 then 48 + n else 87 + n)
def hexUp (n : Nat) : UInt8 := UInt8.ofNat (if n < 10 then 48 + n else 55 + n)
abbrev digL : List UInt8 := [48, 49, 50, 51, 52, 53, 54, 55, 56, 57, 97, 98, 99, 100, 101, 102, 65, 66, 67, 68, 69, 70]
theorem idx_lo : ∀ n, n < 16 → Go.Lib.indexByte digL (hexLo n) = ((n : Nat) : Int) := by decide +kernel
theorem idx_up : ∀ n, n < 16 → Go.Lib.indexByte digL (hexUp n) = (((if n < 10 then n else n + 6) : Nat) : Int) := by decide +kernel
inductive Atom where
 | hex (b : Nat)
 | dot
 | cls
def txtA : Atom → List UInt8
 | .hex b => [92, 120, hexLo (b / 16), hexUp (b % 16)]
 | .dot => [46]
 | .cls => [91, 94, 93]
def wA' : Atom → Nat → Nat
 | .hex b => wordsOf [b]
 | _ => fullW
def lfA (A : Atom) : RT := .mk 1 (wA' A) .nilsl [] 0 0
def Atom.Ok : Atom → Prop
 | .hex b => b < 256
 | _ => True
def Lies (T : List UInt8) (i : Nat) (s : List UInt8) : Prop := ∀ (j : Nat) (c : UInt8), s[j]? = some c → T[i + j]? = some c
section
variable {E : Env} [R : ParR E] {T : List UInt8} {i op k : Nat} {H : Heap}
theorem pset2 {H : Heap} {k : Nat} : (∀ (b : Option EB) (G : Heap) (j : Nat), (H.set k b ++ G)[H.length + j]? = G[j]?) ∧ (∀ (b : Option EB) (G : Heap), (H.set k b ++ G)[H.length]? = G[0]?) ∧ (∀ (b : Option EB) (G : Heap) (j : Nat) (c : Option EB), (H.set k b ++ G).set (H.length + j) c = H.set k b ++ G.set j c) ∧ (∀ (b : Option EB) (G : Heap) (c : Option EB), (H.set k b ++ G).set H.length c = H.set k b ++ G.set 0 c) := by
 have l : ∀ b : Option EB, (H.set k b).length = H.length := fun b => List.length_set
 refine ⟨fun b G j => ?_, fun b G => ?_, fun b G j c => ?_, fun b G c => ?_⟩
 ·rw [List.getElem?_append_right (by rw [l]; omega), l, Nat.add_sub_cancel_left]
 ·rw [List.getElem?_append_right (by rw [l]; omega), l, Nat.sub_self]
 ·rw [List.set_append_right _ _ (by rw [l]; omega), l, Nat.add_sub_cancel_left]
 ·rw [List.set_append_right _ _ (by rw [l]; omega), l, Nat.sub_self]
theorem pmore (hk : H[k]? = some (PB T i op)) (G : Heap) : (H ++ G)[k]? = some (PB T i op) := by rw [List.getElem?_append_left (get_lt hk)]; exact hk
theorem is_at (hT : Pr T) (hk : H[k]? = some (PB T i op)) {c : UInt8} (hc : T[i]? = some c) (b : Nat) (hb : b < 256) (G : Heap) : den E R.n_rxparse_parser_is [.ptr k 4 0 0, .int .u8 b] (H ++ G) = some (.ret (.bool (decide (c = UInt8.ofNat b))), H ++ G) := by
 have h := is_den (R := R) hT (Nat.le_of_lt (get_lt hc)) (pmore hk G) b hb
 rw [hc] at h
 simpa using h
theorem take_at (hT : Pr T) (hk : H[k]? = some (PB T i op)) {c : UInt8} (hc : T[i]? = some c) (G : Heap) : den E R.n_rxparse_parser_take [.ptr k 4 0 0, .int .u8 c.toNat] (H ++ G) = some (.ret (.bool true), H.set k (PB T (i + 1) op) ++ G) := by
 rw [take_yes (R := R) hT (pmore hk G) hc, List.set_append_left _ _ (get_lt hk)]
theorem take_un (hT : Pr T) (hk : H[k]? = some (PB T i op)) {c : UInt8} (hc : T[i]? = some c) (b : Nat) (hb : b < 256) (hn : c ≠ UInt8.ofNat b) (G : Heap) : den E R.n_rxparse_parser_take [.ptr k 4 0 0, .int .u8 b] (H ++ G) = some (.ret (.bool false), H ++ G) :=
 take_no (R := R) hT (Nat.le_of_lt (get_lt hc)) (pmore hk G) b hb (by rw [hc]; simpa using hn)
theorem class_den (K : PaK E) (hT : Pr T) (hk : H[k]? = some (PB T i op)) (h0 : T[i]? = some 94) (h1 : T[i + 1]? = some 93) : den E R.n_rxparse_parser_class [.ptr k 4 0 0] H = some (.ret (eset fullW), H.set k (PB T (i + 2) op)) := by
 have hkl := get_lt hk
 obtain ⟨g1, g2, g3, g4, g5, g6⟩ := pset hkl
 obtain ⟨q1, q2, q3, q4⟩ := pset2 (H := H) (k := k)
 have t0 : ∀ G, den E R.n_rxparse_parser_take [.ptr k 4 0 0, .int .u8 94] (H ++ G) = some (.ret (.bool true), H.set k (PB T (i + 1) op) ++ G) := take_at (R := R) hT hk h0
 have i1 : ∀ G, den E R.n_rxparse_parser_is [.ptr k 4 0 0, .int .u8 93] (H.set k (PB T (i + 1) op) ++ G) = some (.ret (.bool true), H.set k (PB T (i + 1) op) ++ G) := fun G => is_at (R := R) hT (g1 _) h1 93 (by omega) G
 have m1 : ∀ G, den E R.n_rxparse_parser_must [.ptr k 4 0 0, .int .u8 93] (H.set k (PB T (i + 1) op) ++ G) = some (.ret (.tup []), H.set k (PB T (i + 2) op) ++ G) := fun G => by
  have := must_den (R := R) (H := H.set k (PB T (i + 1) op) ++ G) hT (g3 _ G) h1
  rw [g4] at this
  exact this
 have nt : ∀ H, den E R.n_octs_Not [.agg (tab 4 fun _ => .int .u64 0)] H = some (.ret (eset fullW), H) := K.not
 have fin : ∀ G, finV H (eset fullW) .ret (H.set k (PB T (i + 2) op) ++ G) = some (.ret (eset fullW), H.set k (PB T (i + 2) op)) := fun G => finV_set rfl (fz_ok rfl) rfl rfl
 refine den_of R.d_rxparse_parser_class (by simp) ?_
 unfold Gn.rxparse_parser_class Gn.rxparse_parser_class_r
 unfold eset at nt fin ⊢
 clear hk g1 g2 g3 g4 g5 g6 K
 repeat' first | (simp (disch := first | omega | assumption) only [go_sem, simprocAttr, *]) | refine HG_split (fun hb=>?_) fun hb=>?_ | refine HC_split (fun hb=>?_) fun hb=>?_
 refine Hd_loop8 ?_
 repeat' first | (simp (disch := first | omega | assumption) only [go_sem, simprocAttr, *]) | refine HG_split (fun hb=>?_) fun hb=>?_ | refine HC_split (fun hb=>?_) fun hb=>?_
 all_goals (try simp only [FX] at *)
 all_goals first | omega | exact fin _ | skip
theorem atom_den (K : PaK E) (A : Atom) (hA : A.Ok) (hT : Pr T) (hk : H[k]? = some (PB T i op)) (hL : Lies T i (txtA A)) : den E R.n_rxparse_parser_atom [.ptr k 4 0 0] H = some (.ret (lfA A).E, H.set k (PB T (i + (txtA A).length) op)) := by
 have hkl := get_lt hk
 obtain ⟨g1, g2, g3, g4, g5, g6⟩ := pset hkl
 obtain ⟨q1, q2, q3, q4⟩ := pset2 (H := H) (k := k)
 have fin : ∀ G, finV H (lfA A).E .ret (H.set k (PB T (i + (txtA A).length) op) ++ G) = some (.ret (lfA A).E, H.set k (PB T (i + (txtA A).length) op)) := fun G => finV_set rfl (fz_ok rfl) rfl rfl
 refine den_of R.d_rxparse_parser_atom (by simp) ?_
 unfold Gn.rxparse_parser_atom Gn.rxparse_parser_atom_r
 cases A with
 | hex b =>
  have hb : b < 256 := hA
  have c0 : T[i]? = some 92 := hL 0 92 rfl
  have c1 : T[i + 1]? = some 120 := hL 1 120 rfl
  have c2 : T[i + 2]? = some (hexLo (b / 16)) := hL 2 _ rfl
  have c3 : T[i + 3]? = some (hexUp (b % 16)) := hL 3 _ rfl
  have i40 : ∀ G, den E R.n_rxparse_parser_is [.ptr k 4 0 0, .int .u8 40] (H ++ G) = some (.ret (.bool false), H ++ G) := is_at (R := R) hT hk c0 40 (by omega)
  have i60 : ∀ G, den E R.n_rxparse_parser_is [.ptr k 4 0 0, .int .u8 60] (H ++ G) = some (.ret (.bool false), H ++ G) := is_at (R := R) hT hk c0 60 (by omega)
  have i92 : ∀ G, den E R.n_rxparse_parser_is [.ptr k 4 0 0, .int .u8 92] (H ++ G) = some (.ret (.bool true), H ++ G) := is_at (R := R) hT hk c0 92 (by omega)
  have t46 : ∀ G, den E R.n_rxparse_parser_take [.ptr k 4 0 0, .int .u8 46] (H ++ G) = some (.ret (.bool false), H ++ G) := take_un (R := R) hT hk c0 46 (by omega) (by decide)
  have t91 : ∀ G, den E R.n_rxparse_parser_take [.ptr k 4 0 0, .int .u8 91] (H ++ G) = some (.ret (.bool false), H ++ G) := take_un (R := R) hT hk c0 91 (by omega) (by decide)
  have es : ∀ G, den E R.n_rxparse_parser_escape [.ptr k 4 0 0] (H ++ G) = some (.ret (.int .u8 (b : Nat)), H.set k (PB T (i + 4) op) ++ G) := fun G => by
   have := escape_den (R := R) (H := H ++ G) hT (pmore hk G) c0 c1 c2 c3 (b / 16) (if b % 16 < 10 then b % 16 else b % 16 + 6) (idx_lo _ (by omega)) (by omega) (idx_up _ (by omega)) (by split <;> omega) (b / 16) (b % 16) (by rw [if_neg (by omega)]) (by split <;> split <;> omega)
   rw [g5, show 16 * (b / 16) + b % 16 = b by omega] at this
   exact this
  have ho := fun H => K.of b H hb
  have hy := fun H => byte_den (R := R) (wordsOf [b]) H
  unfold eset at ho
  simp only [txtA, lfA, wA', List.length_cons, List.length_nil] at fin ⊢
  unfold RT.E at hy fin ⊢
  simp only at hy fin
  clear hk g1 g2 g3 g4 g5 g6 K c0 c1 c2 c3 hL hA
  repeat' first | (simp (disch := first | omega | assumption) only [go_sem, simprocAttr, *]) | refine HG_split (fun hb=>?_) fun hb=>?_ | refine HC_split (fun hb=>?_) fun hb=>?_
  all_goals (try simp only [FX] at *)
  all_goals first | omega | exact fin _ | rfl
 | dot =>
  have c0 : T[i]? = some 46 := hL 0 46 rfl
  have i40 : ∀ G, den E R.n_rxparse_parser_is [.ptr k 4 0 0, .int .u8 40] (H ++ G) = some (.ret (.bool false), H ++ G) := is_at (R := R) hT hk c0 40 (by omega)
  have t46 : ∀ G, den E R.n_rxparse_parser_take [.ptr k 4 0 0, .int .u8 46] (H ++ G) = some (.ret (.bool true), H.set k (PB T (i + 1) op) ++ G) := take_at (R := R) hT hk c0
  have hr := K.range
  have hy := fun H => byte_den (R := R) fullW H
  unfold eset at hr
  simp only [txtA, lfA, wA', List.length_cons, List.length_nil] at fin ⊢
  unfold RT.E at hy fin ⊢
  simp only at hy fin
  clear hk g1 g2 g3 g4 g5 g6 K c0 hL hA
  repeat' first | (simp (disch := first | omega | assumption) only [go_sem, simprocAttr, *]) | refine HG_split (fun hb=>?_) fun hb=>?_ | refine HC_split (fun hb=>?_) fun hb=>?_
  all_goals (try simp only [FX] at *)
  all_goals first | omega | exact fin _ | rfl
 | cls =>
  have c0 : T[i]? = some 91 := hL 0 91 rfl
  have c1 : T[i + 1]? = some 94 := hL 1 94 rfl
  have c2 : T[i + 2]? = some 93 := hL 2 93 rfl
  have i40 : ∀ G, den E R.n_rxparse_parser_is [.ptr k 4 0 0, .int .u8 40] (H ++ G) = some (.ret (.bool false), H ++ G) := is_at (R := R) hT hk c0 40 (by omega)
  have i60 : ∀ G, den E R.n_rxparse_parser_is [.ptr k 4 0 0, .int .u8 60] (H ++ G) = some (.ret (.bool false), H ++ G) := is_at (R := R) hT hk c0 60 (by omega)
  have t46 : ∀ G, den E R.n_rxparse_parser_take [.ptr k 4 0 0, .int .u8 46] (H ++ G) = some (.ret (.bool false), H ++ G) := take_un (R := R) hT hk c0 46 (by omega) (by decide)
  have t91 : ∀ G, den E R.n_rxparse_parser_take [.ptr k 4 0 0, .int .u8 91] (H ++ G) = some (.ret (.bool true), H.set k (PB T (i + 1) op) ++ G) := take_at (R := R) hT hk c0
  have hc : ∀ G, den E R.n_rxparse_parser_class [.ptr k 4 0 0] (H.set k (PB T (i + 1) op) ++ G) = some (.ret (eset fullW), H.set k (PB T (i + 3) op) ++ G) := fun G => by
   have := class_den (R := R) K (H := H.set k (PB T (i + 1) op) ++ G) hT (g3 _ G) c1 c2
   rw [g4] at this
   exact this
  have hy := fun H => byte_den (R := R) fullW H
  unfold eset at hc
  simp only [txtA, lfA, wA', List.length_cons, List.length_nil] at fin ⊢
  unfold RT.E at hy fin ⊢
  simp only at hy fin
  clear hk g1 g2 g3 g4 g5 g6 K c0 c1 c2 hL hA
  repeat' first | (simp (disch := first | omega | assumption) only [go_sem, simprocAttr, *]) | refine HG_split (fun hb=>?_) fun hb=>?_ | refine HC_split (fun hb=>?_) fun hb=>?_
  all_goals (try simp only [FX] at *)
  all_goals first | omega | exact fin _ | rfl
end
def treeOf : List RT → RT
 | [] => .mk 0 (fun _ => 0) .nilsl [] 0 0
 | [t] => cpT t
 | ts => cpT (.mk 2 (fun _ => 0) .nilsl ts 0 0)
theorem words0 : Words fun _ => 0 := fun i => by simp
theorem treeOf_ok {ts : List RT} (h : ∀ t ∈ ts, t.Ok) (hs : ∀ t ∈ ts, t.Sml) (hn : ts.length ≤ 100000) : (treeOf ts).Ok := by
 match ts, h, hs, hn with
 | [], _, _, _ => exact .mk _ _ _ _ _ _ words0 .nil (fun t ht => by simp at ht)
 | [t], h, hs, _ => exact cpT_ok (h t (by simp)) (hs t (by simp))
 | t :: t2 :: ts, h, hs, hn =>
  show (cpT (.mk 2 (fun _ => 0) .nilsl (t :: t2 :: ts) 0 0)).Ok
  rw [cpT, cpL_map]
  have hall : ∀ q ∈ (t :: t2 :: ts).map cpT, q.Ok := fun q hq => by
   obtain ⟨q', hq', rfl⟩ := List.mem_map.1 hq
   exact cpT_ok (h q' hq') (hs q' hq')
  exact .mk _ _ _ _ _ _ words0 (.imm (fun n => okL_trees hall n) (by rw [List.length_map, List.length_map]; omega)) hall
theorem RT.box {t : RT} (ht : t.Ok) : t.E.cells.length = 8 ∧ t.E.cells.all EV.one = true ∧ EV.agg t.E.cells = t.E ∧ List.take 8 t.E.cells = t.E.cells := by
 cases ht with
 | mk _ _ _ _ _ _ _ q2 _ => exact ⟨rfl, by simp [RT.E, EV.cells, EV.one]; exact q2.one.2, rfl, rfl⟩
section
variable {E : Env} [R : ParR E]
theorem cat_den (x : EV) (ts : List RT) (hn : ts.length ≤ 100000) (H : Heap) (hx : ArgT H x ts) (hts : ∀ t ∈ ts, t.Ok) (hsub : ∀ t ∈ ts, t.Sml) : den E R.n_rx_Cat [x] H = some (.ret (treeOf ts).E, H) := by
 have hs : ∀ G, den E R.n_rx_several [.int .i64 2, .agg [.int .i64 0, .int .u64 0, .int .u64 0, .int .u64 0, .int .u64 0, .nilsl, .int .i64 0, .int .i64 0], x] (H ++ G) = some (.ret (treeOf ts).E, H ++ G) := fun G => by
  have := several_den (R := R) 2 (.mk 0 (fun _ => 0) .nilsl [] 0 0) (.mk _ _ _ _ _ _ words0 .nil (fun t ht => by simp at ht)) x ts hn (H ++ G) (hx.mono G) hts hsub
  revert this
  cases ts with
  | nil => exact fun h => h
  | cons t ts =>
   cases ts with
   | nil => exact fun h => h
   | cons t2 ts => exact fun h => h
 have hto := treeOf_ok hts hsub hn
 have hok := RT.ok hto H.length
 obtain ⟨b1, b2, b3, b4⟩ := RT.box hto
 generalize (treeOf ts).E = z at hs b1 b2 b3 b4 hok ⊢
 have ox := hx.one.1
 have cx := hx.one.2
 unfold EV.cells at b1 b2 b3 b4 cx
 unfold EV.one at ox
 clear hx hts hsub hto
 refine den_of R.d_rx_Cat (by simp) ?_
 unfold Gn.rx_Cat Gn.rx_Cat_r
 repeat' first | (simp (disch := first | omega | assumption) only [go_sem, simprocAttr, *]) | refine HG_split (fun hb=>?_) fun hb=>?_ | refine HC_split (fun hb=>?_) fun hb=>?_
 all_goals (try simp only [FX] at *)
 all_goals first | omega | skip
 exact finV_drop hok rfl
theorem alt_den (x : EV) (t : RT) (H : Heap) (hx : ArgT H x [t]) (ht : t.Ok) (hs : t.Sml) : den E R.n_rx_Alt [x] H = some (.ret (cpT t).E, H) := by
 have hb := fun H => byte_den (R := R) (fun _ => 0) H
 have hs : ∀ G, den E R.n_rx_several [.int .i64 3, .agg [.int .i64 1, .int .u64 0, .int .u64 0, .int .u64 0, .int .u64 0, .nilsl, .int .i64 0, .int .i64 0], x] (H ++ G) = some (.ret (cpT t).E, H ++ G) := fun G =>
  several_den (R := R) 3 (.mk 1 (fun _ => 0) .nilsl [] 0 0) (.mk _ _ _ _ _ _ words0 .nil (fun t ht => by simp at ht)) x [t] (by simp) (H ++ G) (hx.mono G) (fun q hq => by simp at hq; subst hq; exact ht) (fun q hq => by simp at hq; subst hq; exact hs)
 have hb2 : ∀ H, den E R.n_rx_Byte [.agg (tab 4 fun _ => .int .u64 0)] H = some (.ret (.agg [.int .i64 1, .int .u64 0, .int .u64 0, .int .u64 0, .int .u64 0, .nilsl, .int .i64 0, .int .i64 0]), H) := hb
 have hto := cpT_ok ht (by assumption)
 have hok := RT.ok hto H.length
 obtain ⟨b1, b2, b3, b4⟩ := RT.box hto
 generalize (cpT t).E = z at hs b1 b2 b3 b4 hok ⊢
 have ox := hx.one.1
 have cx := hx.one.2
 unfold EV.cells at b1 b2 b3 b4 cx
 unfold EV.one at ox
 clear hx hto hb ht
 refine den_of R.d_rx_Alt (by simp) ?_
 unfold Gn.rx_Alt Gn.rx_Alt_r
 repeat' first | (simp (disch := first | omega | assumption) only [go_sem, simprocAttr, *]) | refine HG_split (fun hb=>?_) fun hb=>?_ | refine HC_split (fun hb=>?_) fun hb=>?_
 all_goals (try simp only [FX] at *)
 all_goals first | omega | skip
 exact finV_drop hok rfl
variable {T : List UInt8} {i op k : Nat} {H : Heap}
theorem lfA_ok (A : Atom) (hA : A.Ok) : (lfA A).Ok := by
 refine .mk _ _ _ _ _ _ ?_ .nil fun t ht => by simp at ht
 cases A with
 | hex b => exact wordsOf_lt [b]
 | dot => exact fun i => by simp [wA', fullW]
 | cls => exact fun i => by simp [wA', fullW]
theorem lfA_sml (A : Atom) : (lfA A).Sml := .mk _ _ _ _ _ _ (by simp) fun t ht => by simp at ht
theorem item_den (K : PaK E) (A : Atom) (hA : A.Ok) (hT : Pr T) (hk : H[k]? = some (PB T i op)) (hL : Lies T i (txtA A)) (hle : i + (txtA A).length ≤ T.length) (hN : ∀ c, T[i + (txtA A).length]? = some c → c ≠ 42 ∧ c ≠ 43 ∧ c ≠ 63 ∧ c ≠ 123) :
  den E R.n_rxparse_parser_item [.ptr k 4 0 0] H = some (.ret (lfA A).E, H.set k (PB T (i + (txtA A).length) op)) := by
 have hkl := get_lt hk
 obtain ⟨g1, g2, g3, g4, g5, g6⟩ := pset hkl
 obtain ⟨q1, q2, q3, q4⟩ := pset2 (H := H) (k := k)
 have ha : ∀ G, den E R.n_rxparse_parser_atom [.ptr k 4 0 0] (H ++ G) = some (.ret (lfA A).E, H.set k (PB T (i + (txtA A).length) op) ++ G) := fun G => by
  have := atom_den (R := R) K (H := H ++ G) A hA hT (pmore hk G) hL
  rwa [g5] at this
 have no : ∀ b : Nat, b < 256 → (∀ c, T[i + (txtA A).length]? = some c → c ≠ UInt8.ofNat b) → ∀ G, den E R.n_rxparse_parser_take [.ptr k 4 0 0, .int .u8 b] (H.set k (PB T (i + (txtA A).length) op) ++ G) = some (.ret (.bool false), H.set k (PB T (i + (txtA A).length) op) ++ G) := fun b hb hn G =>
  take_no (R := R) hT hle (g3 _ G) b hb fun e => hn _ e rfl
 have n42 : ∀ G, den E R.n_rxparse_parser_take [.ptr k 4 0 0, .int .u8 42] (H.set k (PB T (i + (txtA A).length) op) ++ G) = some (.ret (.bool false), H.set k (PB T (i + (txtA A).length) op) ++ G) := no 42 (by omega) fun c h => (hN c h).1
 have n43 : ∀ G, den E R.n_rxparse_parser_take [.ptr k 4 0 0, .int .u8 43] (H.set k (PB T (i + (txtA A).length) op) ++ G) = some (.ret (.bool false), H.set k (PB T (i + (txtA A).length) op) ++ G) := no 43 (by omega) fun c h => (hN c h).2.1
 have n63 : ∀ G, den E R.n_rxparse_parser_take [.ptr k 4 0 0, .int .u8 63] (H.set k (PB T (i + (txtA A).length) op) ++ G) = some (.ret (.bool false), H.set k (PB T (i + (txtA A).length) op) ++ G) := no 63 (by omega) fun c h => (hN c h).2.2.1
 have n123 : ∀ G, den E R.n_rxparse_parser_is [.ptr k 4 0 0, .int .u8 123] (H.set k (PB T (i + (txtA A).length) op) ++ G) = some (.ret (.bool false), H.set k (PB T (i + (txtA A).length) op) ++ G) := fun G => by
  have := is_den (R := R) hT hle (g3 (PB T (i + (txtA A).length) op) G) 123 (by omega)
  rwa [decide_eq_false (p := T[i + (txtA A).length]? = some (UInt8.ofNat 123)) (fun e => (hN _ e).2.2.2 rfl)] at this
 have hlo := lfA_ok A hA
 have fin : ∀ G, finV H (lfA A).E .ret (H.set k (PB T (i + (txtA A).length) op) ++ G) = some (.ret (lfA A).E, H.set k (PB T (i + (txtA A).length) op)) := fun G => finV_set rfl (fz_ok (RT.ok hlo _)) rfl rfl
 obtain ⟨b1, b2, b3, b4⟩ := RT.box hlo
 generalize (lfA A).E = z at ha fin b1 b2 b3 b4 ⊢
 generalize i + (txtA A).length = i' at ha n42 n43 n63 n123 fin ⊢
 unfold EV.cells at b1 b2 b3 b4
 refine den_of R.d_rxparse_parser_item (by simp) ?_
 unfold Gn.rxparse_parser_item Gn.rxparse_parser_item_r
 clear hk g1 g2 g3 g4 g5 g6 K hL hA no hlo
 repeat' first | (simp (disch := first | omega | assumption) only [go_sem, simprocAttr, *]) | refine HG_split (fun hb=>?_) fun hb=>?_ | refine HC_split (fun hb=>?_) fun hb=>?_
 all_goals (try simp only [FX] at *)
 all_goals first | omega | exact fin _ | skip
end
def txtL (As : List Atom) : List UInt8 := As.flatMap txtA
def posA (As : List Atom) (m : Nat) : Nat := (txtL (As.take m)).length
theorem txtL_app (a b : List Atom) : txtL (a ++ b) = txtL a ++ txtL b := by simp [txtL]
theorem posA_next {As : List Atom} {m : Nat} {A : Atom} (h : As[m]? = some A) : posA As (m + 1) = posA As m + (txtA A).length := by
 unfold posA
 rw [List.take_add_one, h, txtL_app, List.length_append]
 simp [txtL]
theorem posA_all (As : List Atom) : posA As As.length = (txtL As).length := by unfold posA; rw [List.take_length]
theorem txtL_split {As : List Atom} {m : Nat} {A : Atom} (h : As[m]? = some A) : txtL As = txtL (As.take m) ++ (txtA A ++ txtL (As.drop (m + 1))) := by
 have : As = As.take m ++ (A :: As.drop (m + 1)) := by
  rw [← drop_get h, List.take_append_drop]
 conv => lhs; rw [this]
 rw [txtL_app]
 rfl
theorem lies_at {As : List Atom} {m : Nat} {A : Atom} (h : As[m]? = some A) : Lies (txtL As) (posA As m) (txtA A) := fun j c hc => by
 rw [txtL_split h, List.getElem?_append_right (by unfold posA; omega)]
 unfold posA
 rw [Nat.add_sub_cancel_left, List.getElem?_append_left (get_lt hc)]
 exact hc
theorem posA_le {As : List Atom} {m : Nat} {A : Atom} (h : As[m]? = some A) : posA As m + (txtA A).length ≤ (txtL As).length := by
 rw [txtL_split h, List.length_append, List.length_append]
 unfold posA
 omega
theorem txtA_pos (A : Atom) : 0 < (txtA A).length := by cases A <;> simp [txtA]
theorem txtA_first (A : Atom) : (txtA A)[0]? = some 92 ∨ (txtA A)[0]? = some 46 ∨ (txtA A)[0]? = some 91 := by
 cases A with
 | hex b => exact .inl rfl
 | dot => exact .inr (.inl rfl)
 | cls => exact .inr (.inr rfl)
theorem first_at {As : List Atom} {m : Nat} (hm : m ≤ As.length) {c : UInt8} (hc : (txtL As)[posA As m]? = some c) : c = 92 ∨ c = 46 ∨ c = 91 := by
 by_cases hlt : m < As.length
 ·obtain ⟨A, hA⟩ := get_some hlt
  have hl := lies_at hA
  rcases txtA_first A with h | h | h <;> (have h2 := hl 0 _ h; rw [Nat.add_zero, hc] at h2; simp only [Option.some.injEq] at h2; subst h2; simp)
 ·have e : m = As.length := by omega
  subst e
  rw [posA_all, List.getElem?_eq_none (Nat.le_refl _)] at hc
  simp at hc
section
variable {E : Env} [R : ParR E] {op k : Nat} {H : Heap}
theorem OutE.argT {d : Nat} {x : EV} {ts : List RT} {G P : Heap} (h : OutE d 8 x (ts.map RT.E) G) (hP : P.length = d) : ArgT (P ++ G) x ts := by
 rcases h with ⟨rfl, h, rfl⟩ | ⟨j, rfl, rfl, _⟩
 ·cases ts with
  | nil => exact .inl .nil
  | cons t ts => simp at h
 ·refine .inr ⟨j + d, by rw [List.length_map], ?_⟩
  rw [List.getElem?_append_right (by omega), hP, Nat.add_sub_cancel]
  simp
theorem row_den (K : PaK E) (As : List Atom) (hA : ∀ A ∈ As, A.Ok) (hn : As.length ≤ 1000) (hT : Pr (txtL As)) (hk : H[k]? = some (PB (txtL As) 0 op)) :
  den E R.n_rxparse_parser_row [.ptr k 4 0 0] H = some (.ret (treeOf (As.map lfA)).E, H.set k (PB (txtL As) (txtL As).length op)) := by
 have hkl := get_lt hk
 obtain ⟨g1, g2, g3, g4, g5, g6⟩ := pset hkl
 obtain ⟨q1, q2, q3, q4⟩ := pset2 (H := H) (k := k)
 have hts : ∀ t ∈ As.map lfA, t.Ok := fun t ht => by
  obtain ⟨A, hm, rfl⟩ := List.mem_map.1 ht
  exact lfA_ok A (hA A hm)
 have hss : ∀ t ∈ As.map lfA, t.Sml := fun t ht => by
  obtain ⟨A, hm, rfl⟩ := List.mem_map.1 ht
  exact lfA_sml A
 have hto := treeOf_ok hts hss (by rw [List.length_map]; omega)
 have fin : ∀ G, finV H (treeOf (As.map lfA)).E .ret (H.set k (PB (txtL As) (txtL As).length op) ++ G) = some (.ret (treeOf (As.map lfA)).E, H.set k (PB (txtL As) (txtL As).length op)) := fun G => finV_set (newP_ok (RT.ok hto _)) (fz_ok (RT.ok hto _)) rfl rfl
 refine den_of R.d_rxparse_parser_row (by simp) ?_
 unfold Gn.rxparse_parser_row Gn.rxparse_parser_row_r
 repeat' first | (simp (disch := first | omega | assumption) only [go_sem, simprocAttr, *]) | refine HG_split (fun hb=>?_) fun hb=>?_ | refine HC_split (fun hb=>?_) fun hb=>?_
 refine while_of (ι := Nat × EV × Heap) (fun p => p.1 ≤ As.length ∧ OutE (H.length + 1) 8 p.2.1 ((As.map lfA).take p.1 |>.map RT.E) p.2.2) (fun p => As.length - p.1) (fun p => [(0, .ptr k 4 0 0), (2, .ptr H.length 8 0 0), (3, p.2.1)])
  (fun p => H.set k (PB (txtL As) (posA As p.1) op) ++ some (.row 8 [zRe]) :: p.2.2) (0, .nilsl, []) ⟨by omega, OutE.start⟩ ?_ ?_ ?_
 ·simp (disch := omega) only [go_sem, simprocAttr, Sl]
 ·have h0 : H = H.set k (PB (txtL As) 0 op) := by
   refine List.ext_getElem? fun j => ?_
   by_cases e : k = j
   ·subst e; rw [g1]; exact hk
   ·rw [List.getElem?_set_ne e]
  show H ++ _ = H.set k (PB (txtL As) (posA As 0) op) ++ _
  rw [show posA As 0 = 0 from rfl, ← h0]
 rintro ⟨m, x, G⟩ t ⟨hm, hO⟩ ht K2 hK
 simp only at hm hO
 simp (disch := omega) only [go_sem, simprocAttr, Sl] at ht
 show @Hd E ⟨_⟩ ⟨t⟩ ⟨H.set k (PB (txtL As) (posA As m) op) ++ some (.row 8 [zRe]) :: G⟩ ⟨_⟩
 have hple : posA As m ≤ (txtL As).length := by
  unfold posA
  have : txtL As = txtL (As.take m) ++ txtL (As.drop m) := by rw [← txtL_app, List.take_append_drop]
  rw [this, List.length_append]
  omega
 have hmo : ∀ G, den E R.n_rxparse_parser_more [.ptr k 4 0 0] (H.set k (PB (txtL As) (posA As m) op) ++ G) = some (.ret (.bool (decide (posA As m < (txtL As).length))), H.set k (PB (txtL As) (posA As m) op) ++ G) := fun G => more_den (R := R) hT hple (g3 _ G)
 have hnb : ∀ b : Nat, b < 256 → b ≠ 92 → b ≠ 46 → b ≠ 91 → ¬(txtL As)[posA As m]? = some (UInt8.ofNat b) := fun b hb n1 n2 n3 e => by
  rcases first_at hm e with h | h | h
  all_goals
   have := congrArg UInt8.toNat h
   rw [UInt8.toNat_ofNat'] at this
   simp at this
   omega
 have i124 : ∀ G, den E R.n_rxparse_parser_is [.ptr k 4 0 0, .int .u8 124] (H.set k (PB (txtL As) (posA As m) op) ++ G) = some (.ret (.bool false), H.set k (PB (txtL As) (posA As m) op) ++ G) := fun G => by
  have := is_den (R := R) hT hple (g3 (PB (txtL As) (posA As m) op) G) 124 (by omega)
  rwa [decide_eq_false (hnb 124 (by omega) (by omega) (by omega) (by omega))] at this
 have i41 : ∀ G, den E R.n_rxparse_parser_is [.ptr k 4 0 0, .int .u8 41] (H.set k (PB (txtL As) (posA As m) op) ++ G) = some (.ret (.bool false), H.set k (PB (txtL As) (posA As m) op) ++ G) := fun G => by
  have := is_den (R := R) hT hple (g3 (PB (txtL As) (posA As m) op) G) 41 (by omega)
  rwa [decide_eq_false (hnb 41 (by omega) (by omega) (by omega) (by omega))] at this
 by_cases hlt : m < As.length
 ·obtain ⟨A, hAm⟩ := get_some hlt
  have hAo := hA A (List.mem_of_getElem? hAm)
  have hpn := posA_next hAm
  have hpl := posA_le hAm
  have hpp := txtA_pos A
  rw [decide_eq_true (by omega)] at hmo
  have hit : ∀ G, den E R.n_rxparse_parser_item [.ptr k 4 0 0] (H.set k (PB (txtL As) (posA As m) op) ++ G) = some (.ret (lfA A).E, H.set k (PB (txtL As) (posA As (m + 1)) op) ++ G) := fun G => by
   have := item_den (R := R) K (H := H.set k (PB (txtL As) (posA As m) op) ++ G) A hAo hT (g3 _ G) (lies_at hAm) hpl (fun c hc => by
    rw [← hpn] at hc
    rcases first_at (by omega) hc with rfl | rfl | rfl <;> decide)
   rw [g4, ← hpn] at this
   exact this
  obtain ⟨b1, b2, b3, b4⟩ := RT.box (lfA_ok A hAo)
  obtain ⟨x', G', hap, hO'⟩ := hO.append (lfA A).E 80 (H.set k (PB (txtL As) (posA As (m + 1)) op) ++ [some (.row 8 [zRe])]) (by simp) (by omega) b1 b2 (by simp; omega) (by omega)
  rw [show ((As.map lfA).take m).map RT.E ++ [(lfA A).E] = ((As.map lfA).take (m + 1)).map RT.E by
   rw [List.take_add_one, List.getElem?_map, hAm]; simp] at hO'
  simp only [List.append_assoc, List.cons_append, List.nil_append] at hap
  have go := fun s' H' => hK (m + 1, x', G') s' H' ⟨by simp only; omega, hO'⟩ (by simp only; omega)
  clear hK hO hO' K hT fin hto hts hss hnb hpn hpl hA hk
  generalize (lfA A).E = z at hit hap b1 b2 b3 b4
  unfold EV.cells at b1 b2 b3 b4
  repeat' first | (simp (disch := first | omega | assumption) only [go_sem, simprocAttr, *]) | refine HG_split (fun hb=>?_) fun hb=>?_ | refine HC_split (fun hb=>?_) fun hb=>?_
  all_goals (try simp only [FX] at *)
  all_goals first | omega | skip
  refine go _ _ ?_ rfl
  simp (disch := omega) only [go_sem, simprocAttr, Sl, ht, and_self, cast_succ]
 ·have hme : m = As.length := by omega
  subst hme
  rw [posA_all] at hmo i124 i41 ⊢
  rw [decide_eq_false (by omega)] at hmo
  rw [List.take_of_length_le (by simp)] at hO
  have hx := hO.argT (P := H.set k (PB (txtL As) (txtL As).length op) ++ [some (.row 8 [zRe])]) (by simp)
  have hc := cat_den (R := R) x (As.map lfA) (by simp; omega) _ hx hts hss
  simp only [List.append_assoc, List.cons_append, List.nil_append] at hc
  obtain ⟨b1, b2, b3, b4⟩ := RT.box hto
  generalize (treeOf (As.map lfA)).E = z at hc fin b1 b2 b3 b4 ⊢
  unfold EV.cells at b1 b2 b3 b4
  clear hK hO K hto hts hss hnb hA hk hx i124 i41
  repeat' first | (simp (disch := first | omega | assumption) only [go_sem, simprocAttr, *]) | refine HG_split (fun hb=>?_) fun hb=>?_ | refine HC_split (fun hb=>?_) fun hb=>?_
  all_goals (try simp only [FX] at *)
  all_goals first | omega | exact fin _
end
theorem cpT_sml {t : RT} (hs : t.Sml) : (cpT t).Sml := by
 induction hs with
 | mk k w x ts lo hi h1 h2 ih =>
  rw [cpT, cpL_map]
  exact .mk _ _ _ _ _ _ (by simpa using h1) fun t ht => by
   obtain ⟨q, hq, rfl⟩ := List.mem_map.1 ht
   exact ih q hq
theorem treeOf_sml {ts : List RT} (hs : ∀ t ∈ ts, t.Sml) (hn : ts.length ≤ 100000) : (treeOf ts).Sml := by
 match ts, hs, hn with
 | [], _, _ => exact .mk _ _ _ _ _ _ (by simp) fun t ht => by simp at ht
 | [t], hs, _ => exact cpT_sml (hs t (by simp))
 | t :: t2 :: ts, hs, hn => exact cpT_sml (.mk _ _ _ _ _ _ hn hs)
def parsedT (As : List Atom) : RT := cpT (treeOf (As.map lfA))
section
variable {E : Env} [R : ParR E] {op k : Nat} {H : Heap}
theorem parsed_ok (As : List Atom) (hA : ∀ A ∈ As, A.Ok) (hn : As.length ≤ 1000) : (treeOf (As.map lfA)).Ok ∧ (treeOf (As.map lfA)).Sml ∧ (parsedT As).Ok := by
 have hts : ∀ t ∈ As.map lfA, t.Ok := fun t ht => by
  obtain ⟨A, hm, rfl⟩ := List.mem_map.1 ht
  exact lfA_ok A (hA A hm)
 have hss : ∀ t ∈ As.map lfA, t.Sml := fun t ht => by
  obtain ⟨A, hm, rfl⟩ := List.mem_map.1 ht
  exact lfA_sml A
 have h1 := treeOf_ok hts hss (by rw [List.length_map]; omega)
 have h2 := treeOf_sml hss (by rw [List.length_map]; omega)
 exact ⟨h1, h2, cpT_ok h1 h2⟩
theorem alts_den (K : PaK E) (As : List Atom) (hA : ∀ A ∈ As, A.Ok) (hn : As.length ≤ 1000) (hT : Pr (txtL As)) (hk : H[k]? = some (PB (txtL As) 0 op)) :
  den E R.n_rxparse_parser_alternatives [.ptr k 4 0 0] H = some (.ret (parsedT As).E, H.set k (PB (txtL As) (txtL As).length op)) := by
 have hkl := get_lt hk
 obtain ⟨g1, g2, g3, g4, g5, g6⟩ := pset hkl
 obtain ⟨q1, q2, q3, q4⟩ := pset2 (H := H) (k := k)
 obtain ⟨h1, h2, h3⟩ := parsed_ok As hA hn
 have hr : ∀ G, den E R.n_rxparse_parser_row [.ptr k 4 0 0] (H ++ G) = some (.ret (treeOf (As.map lfA)).E, H.set k (PB (txtL As) (txtL As).length op) ++ G) := fun G => by
  have := row_den (R := R) K As hA hn hT (pmore hk G)
  rwa [g5] at this
 have nt : ∀ G, den E R.n_rxparse_parser_take [.ptr k 4 0 0, .int .u8 124] (H.set k (PB (txtL As) (txtL As).length op) ++ G) = some (.ret (.bool false), H.set k (PB (txtL As) (txtL As).length op) ++ G) := fun G =>
  take_no (R := R) hT (Nat.le_refl _) (g3 _ G) 124 (by omega) (by rw [List.getElem?_eq_none (Nat.le_refl _)]; simp)
 have hal : den E R.n_rx_Alt [.own (H.length + 1) 8 0 1] (H.set k (PB (txtL As) (txtL As).length op) ++ [some (.row 8 [zRe]), some (.row 8 [(treeOf (As.map lfA)).E])]) = some (.ret (parsedT As).E, H.set k (PB (txtL As) (txtL As).length op) ++ [some (.row 8 [zRe]), some (.row 8 [(treeOf (As.map lfA)).E])]) :=
  alt_den (R := R) (.own (H.length + 1) 8 0 1) (treeOf (As.map lfA)) _ (.inr ⟨H.length + 1, rfl, by rw [q1]; rfl⟩) h1 h2
 have fin : ∀ G, finV H (parsedT As).E .ret (H.set k (PB (txtL As) (txtL As).length op) ++ G) = some (.ret (parsedT As).E, H.set k (PB (txtL As) (txtL As).length op)) := fun G => finV_set (newP_ok (RT.ok h3 _)) (fz_ok (RT.ok h3 _)) rfl rfl
 obtain ⟨a1, a2, a3, a4⟩ := RT.box h1
 obtain ⟨b1, b2, b3, b4⟩ := RT.box h3
 generalize (treeOf (As.map lfA)).E = y at hr hal a1 a2 a3 a4
 generalize (parsedT As).E = z at hal fin b1 b2 b3 b4 ⊢
 unfold EV.cells at a1 a2 a3 a4 b1 b2 b3 b4
 refine den_of R.d_rxparse_parser_alternatives (by simp) ?_
 unfold Gn.rxparse_parser_alternatives Gn.rxparse_parser_alternatives_r
 clear hk g1 g2 g3 g4 g5 K hT hA h1 h2 h3
 repeat' first | (simp (disch := first | omega | assumption) only [go_sem, simprocAttr, *]) | refine HG_split (fun hb=>?_) fun hb=>?_ | refine HC_split (fun hb=>?_) fun hb=>?_
 refine Hd_loop8 ?_
 repeat' first | (simp (disch := first | omega | assumption) only [go_sem, simprocAttr, *]) | refine HG_split (fun hb=>?_) fun hb=>?_ | refine HC_split (fun hb=>?_) fun hb=>?_
 all_goals (try simp only [FX] at *)
 all_goals first | omega | exact fin _ | skip
theorem nodesN_den {t : RT} (ht : t.Ok) (H : Heap) : den E R.n_rx_Nodes [t.E] H = some (.ret (.int .i64 (walkT t 1 (0, 0)).1), H) := by
 have hw := fun H => walked_den (E := E) (R := R.toTreR) ht H
 cases ht with
 | mk kd w x ts lo hi h1 h2 h3 =>
 have ox := h2.one.2
 have cx := h2.one.1
 generalize walkT (.mk kd w x ts lo hi) 1 (0, 0) = p at hw ⊢
 refine den_of R.d_rx_Nodes (by simp) ?_
 unfold Gn.rx_Nodes Gn.rx_Nodes_r
 unfold RT.E at hw ⊢
 unfold EV.one at ox
 unfold EV.cells at cx
 simp only at hw
 repeat' first | (simp (disch := first | omega | assumption) only [go_sem, simprocAttr, *]) | refine HG_split (fun hb=>?_) fun hb=>?_ | refine HC_split (fun hb=>?_) fun hb=>?_
 all_goals (try simp only [FX] at *)
 all_goals exact finV_drop rfl rfl
theorem deepN_den {t : RT} (ht : t.Ok) (H : Heap) : den E R.n_rx_Deep [t.E] H = some (.ret (.int .i64 (walkT t 1 (0, 0)).2), H) := by
 have hw := fun H => walked_den (E := E) (R := R.toTreR) ht H
 cases ht with
 | mk kd w x ts lo hi h1 h2 h3 =>
 have ox := h2.one.2
 have cx := h2.one.1
 generalize walkT (.mk kd w x ts lo hi) 1 (0, 0) = p at hw ⊢
 refine den_of R.d_rx_Deep (by simp) ?_
 unfold Gn.rx_Deep Gn.rx_Deep_r
 unfold RT.E at hw ⊢
 unfold EV.one at ox
 unfold EV.cells at cx
 simp only at hw
 repeat' first | (simp (disch := first | omega | assumption) only [go_sem, simprocAttr, *]) | refine HG_split (fun hb=>?_) fun hb=>?_ | refine HC_split (fun hb=>?_) fun hb=>?_
 all_goals (try simp only [FX] at *)
 all_goals exact finV_drop rfl rfl
theorem parse_den (K : PaK E) (As : List Atom) (hA : ∀ A ∈ As, A.Ok) (hn : As.length ≤ 1000) (hT : Pr (txtL As)) (hm : mayT (parsedT As) = true) (H : Heap) :
  den E R.n_rxparse_Parse [.str (txtL As), .nilsl] H = some (.ret (.tup [(parsedT As).E, .int .i64 0, .int .i64 0]), H) := by
 obtain ⟨h1, h2, h3⟩ := parsed_ok As hA hn
 have hlen := hT.1
 have hal : den E R.n_rxparse_parser_alternatives [.ptr (H.length + 3) 4 0 0] (H ++ [some (.row 8 [zRe]), some (.row 1 [.int .i64 0]), some (.row 1 [.int .i64 0]), some (.row 4 [.agg [.str (txtL As), .int .i64 0, .int .i64 0, .nilsl]])]) = some (.ret (parsedT As).E, H ++ [some (.row 8 [zRe]), some (.row 1 [.int .i64 0]), some (.row 1 [.int .i64 0]), PB (txtL As) (txtL As).length 0]) := by
  have := alts_den (R := R) (H := H ++ [some (.row 8 [zRe]), some (.row 1 [.int .i64 0]), some (.row 1 [.int .i64 0]), some (.row 4 [.agg [.str (txtL As), .int .i64 0, .int .i64 0, .nilsl]])]) (k := H.length + 3) (op := 0) K As hA hn hT (by rw [List.getElem?_append_right (by omega), Nat.add_sub_cancel_left]; rfl)
  rw [List.set_append_right _ _ (by omega), Nat.add_sub_cancel_left] at this
  exact this
 have hmo : den E R.n_rxparse_parser_more [.ptr (H.length + 3) 4 0 0] (H ++ [some (.row 8 [(parsedT As).E]), some (.row 1 [.int .i64 0]), some (.row 1 [.int .i64 0]), PB (txtL As) (txtL As).length 0]) = some (.ret (.bool false), H ++ [some (.row 8 [(parsedT As).E]), some (.row 1 [.int .i64 0]), some (.row 1 [.int .i64 0]), PB (txtL As) (txtL As).length 0]) := by
  have := more_den (R := R) (H := H ++ [some (.row 8 [(parsedT As).E]), some (.row 1 [.int .i64 0]), some (.row 1 [.int .i64 0]), PB (txtL As) (txtL As).length 0]) (k := H.length + 3) (i := (txtL As).length) (op := 0) hT (Nat.le_refl _) (by rw [List.getElem?_append_right (by omega), Nat.add_sub_cancel_left]; rfl)
  rwa [decide_eq_false (Nat.lt_irrefl _)] at this
 have hN := fun H => nodesN_den (R := R) h3 H
 have hD := fun H => deepN_den (R := R) h3 H
 have hM := fun H => mayT_den (E := E) (R := R.toTreR) h3 H
 rw [hm] at hM
 have hok := RT.ok h3 H.length
 unfold mayT at hm
 simp only [Bool.and_eq_true, decide_eq_true_eq] at hm
 obtain ⟨m1, m2, _⟩ := hm
 generalize walkT (parsedT As) 1 (0, 0) = p at hN hD m1 m2
 have hcau : ∀ (K : Heap → Prop) (W : Heap), K W → HDf E R.n_rxparse_Parse_c1 [.ptr H.length 8 0 0, .ptr (H.length + 1) 1 0 0, .ptr (H.length + 2) 1 0 0] W none K := fun K W hK => by
  refine ⟨_, R.d_rxparse_Parse_c1, by simp, ?_⟩
  unfold Gn.rxparse_Parse_c1
  repeat' first | (simp (disch := first | omega | assumption) only [go_sem, simprocAttr, Option.getD_some, Option.getD_none, *]) | refine HG_split (fun hb=>?_) fun hb=>?_ | refine HC_split (fun hb=>?_) fun hb=>?_
  exact ⟨.tup [], _, by unfold finF; simp only [evResults, evResL]; exact finV_same rfl rfl, hK⟩
 obtain ⟨cs, hz, b1, b2, b3, b4⟩ : ∃ cs, (parsedT As).E = .agg cs ∧ cs.length = 8 ∧ cs.all EV.one = true ∧ cs.take 8 = cs ∧ cs.drop 8 = [] := by
  obtain ⟨a1, a2, a3, a4⟩ := RT.box h3
  exact ⟨_, a3.symm, a1, a2, a4, List.drop_eq_nil_of_le (by omega)⟩
 rw [hz] at hal hmo hok ⊢
 simp only [hz] at hN hD hM
 clear hz
 refine den_ofE R.d_rxparse_Parse (by simp) ?_
 unfold Gn.rxparse_Parse
 clear hA K h1 h2 h3
 refine HE_pre ?_
 simp (disch := omega) only [go_sem, simprocAttr]
 refine HE_pre ?_
 repeat' first | (simp (disch := first | omega | assumption) only [go_sem, simprocAttr, *]) | refine HG_split (fun hb=>?_) fun hb=>?_ | refine HC_split (fun hb=>?_) fun hb=>?_
 all_goals (try simp only [FX] at *)
 all_goals first | omega | skip
 refine HE_dfr ?_
 simp (disch := omega) only [go_sem, simprocAttr]
 refine ⟨_, _, _, rfl, ?_⟩
 repeat' first | (simp (disch := first | omega | assumption) only [go_sem, simprocAttr, *]) | refine HG_split (fun hb=>?_) fun hb=>?_ | refine HC_split (fun hb=>?_) fun hb=>?_
 all_goals (try simp only [FX] at *)
 all_goals first | omega | skip
 refine hcau _ _ ?_
 unfold Gn.rxparse_Parse_r
 repeat' first | (simp (disch := first | omega | assumption) only [go_sem, simprocAttr, *]) | refine HG_split (fun hb=>?_) fun hb=>?_ | refine HC_split (fun hb=>?_) fun hb=>?_
 exact finV_drop (by simpa [EV.ok, okL] using hok) rfl
end
def lf2 (A : Atom) : RT := .mk 1 (wA' A) (.imm 8 []) [] 0 0
theorem cp_lf (A : Atom) : cpT (lfA A) = lf2 A := by simp [lfA, lf2, cpT, cpL]
theorem cp_lf2 (A : Atom) : cpT (lf2 A) = lf2 A := by simp [lf2, cpT, cpL]
theorem parsed_nil : parsedT [] = .mk 0 (fun _ => 0) (.imm 8 []) [] 0 0 := by simp [parsedT, treeOf, cpT, cpL]
theorem parsed_one (A : Atom) : parsedT [A] = lf2 A := by
 unfold parsedT
 rw [show treeOf ([A].map lfA) = cpT (lfA A) from rfl, cp_lf, cp_lf2]
theorem parsed_two (A B : Atom) (As : List Atom) : parsedT (A :: B :: As) = .mk 2 (fun _ => 0) (.imm 8 (((A :: B :: As).map lf2).map RT.E)) ((A :: B :: As).map lf2) 0 0 := by
 unfold parsedT
 rw [show treeOf ((A :: B :: As).map lfA) = cpT (.mk 2 (fun _ => 0) .nilsl ((A :: B :: As).map lfA) 0 0) from rfl]
 have e1 : ∀ l : List Atom, cpL (l.map lfA) = l.map lf2 := fun l => by
  rw [cpL_map, List.map_map]
  exact List.map_congr_left fun A _ => cp_lf A
 have e2 : ∀ l : List Atom, cpL (l.map lf2) = l.map lf2 := fun l => by
  rw [cpL_map, List.map_map]
  exact List.map_congr_left fun A _ => cp_lf2 A
 rw [cpT, e1, cpT, e2]
theorem walk_lfs : ∀ (As : List Atom) (a b : Int), 0 ≤ a → a + As.length ≤ 1000 → b ≤ 2 → (walkL (As.map lf2) 2 (a, b)).1 = a + As.length ∧ (walkL (As.map lf2) 2 (a, b)).2 ≤ 2
 | [], a, b, _, _, hb => by simp [walkL, hb]
 | A :: As, a, b, ha, hl, hb => by
  simp only [List.length_cons, List.map_cons] at hl ⊢
  have w : IntKind.i64.wrap (a + 1) = a + 1 := Abs.wrap_i64 (by omega) (by omega)
  have e : walkT (lf2 A) 2 (a, b) = (a + 1, if 2 > b then 2 else b) := by simp [lf2, walkT, walkL, w]
  rw [walkL, e]
  have ih := walk_lfs As (a + 1) (if 2 > b then 2 else b) (by omega) (by omega) (by split <;> omega)
  exact ⟨by rw [ih.1]; push_cast; omega, ih.2⟩
theorem nodes_lfs : ∀ As : List Atom, nodesL (As.map lf2) = true
 | [] => by simp [nodesL]
 | A :: As => by
  rw [List.map_cons, nodesL, nodes_lfs As, Bool.and_true]
  simp [lf2, nodesT, nodesL, nodeB]
theorem parsed_may (As : List Atom) (hn : As.length ≤ 200) : mayT (parsedT As) = true := by
 have w0 : IntKind.i64.wrap 1 = 1 := rfl
 have w1 : IntKind.i64.wrap (0 + 1) = 1 := rfl
 have w2 : IntKind.i64.wrap (1 + 1) = 2 := rfl
 match As, hn with
 | [], _ => rw [parsed_nil]; simp [mayT, walkT, walkL, nodesT, nodesL, nodeB, zset, w0]
 | [A], _ => rw [parsed_one]; simp [mayT, lf2, walkT, walkL, nodesT, nodesL, nodeB, w0]
 | A :: B :: As, hn =>
  rw [parsed_two]
  have hw := walk_lfs (A :: B :: As) 1 1 (by omega) (by simp only [List.length_cons] at hn ⊢; omega) (by omega)
  have e : walkT (.mk 2 (fun _ => 0) (.imm 8 (((A :: B :: As).map lf2).map RT.E)) ((A :: B :: As).map lf2) 0 0) 1 (0, 0) = walkL ((A :: B :: As).map lf2) 2 (1, 1) := by
   rw [walkT, w1, w2]
   rfl
  unfold mayT
  rw [e, decide_eq_true (by rw [hw.1]; omega), decide_eq_true (by omega), nodesT, nodes_lfs]
  simp [nodeB, zset]
theorem ends_lf2 (s : List UInt8) (A : Atom) (a : List Bool) : endsF s (lf2 A) a = byteD (wA' A) s a := by simp [lf2, endsF, endsFs, combD]
theorem ends_parsed (s : List UInt8) (As : List Atom) (a : List Bool) : endsF s (parsedT As) a = As.foldl (fun x A => byteD (wA' A) s x) a := by
 match As with
 | [] => rw [parsed_nil]; simp [endsF, combD]
 | [A] => rw [parsed_one, ends_lf2]; rfl
 | A :: B :: As =>
  rw [parsed_two]
  have : ∀ (l : List Atom) (a : List Bool), (endsFs s (l.map lf2)).foldl (fun x f => f x) a = l.foldl (fun x A => byteD (wA' A) s x) a := by
   intro l
   induction l with
   | nil => intro a; simp [endsFs]
   | cons A l ih =>
    intro a
    rw [List.map_cons, endsFs, List.foldl_cons, List.foldl_cons, ends_lf2]
    exact ih _
  rw [endsF, combD, if_neg (by omega), if_neg (by omega), if_pos rfl]
  exact this _ a
theorem fold_takes (s : List UInt8) : ∀ (As pre : List Atom) (a : List Bool), pre.length + As.length ≤ s.length → a.getD pre.length false = true → (∀ (i : Nat) (A : Atom) (b : UInt8), (pre ++ As)[i]? = some A → s[i]? = some b → inSet (wA' A) b.toNat = true) → (As.foldl (fun x A => byteD (wA' A) s x) a).getD (pre.length + As.length) false = true
 | [], pre, a, _, ha, _ => by simpa using ha
 | A :: As, pre, a, hl, ha, h => by
  simp only [List.length_cons] at hl
  obtain ⟨b, hb⟩ := get_some (l := s) (i := pre.length) (by omega)
  have h1 := h pre.length A b (by simp) hb
  have h2 : (byteD (wA' A) s a).getD (pre ++ [A]).length false = true := by
   rw [List.length_append, List.length_singleton, byteD_succ hb, ha, h1]; rfl
  have := fold_takes s As (pre ++ [A]) (byteD (wA' A) s a) (by rw [List.length_append, List.length_singleton]; omega) h2 (by rw [List.append_assoc]; exact h)
  rw [List.length_append, List.length_singleton] at this
  rw [List.foldl_cons, List.length_cons, show pre.length + (As.length + 1) = pre.length + 1 + As.length by omega]
  exact this
theorem parsed_takes (s : List UInt8) (As : List Atom) (hl : As.length = s.length) (h : ∀ (i : Nat) (A : Atom) (b : UInt8), As[i]? = some A → s[i]? = some b → inSet (wA' A) b.toNat = true) : (endsF s (parsedT As) (atL s.length 0)).getD s.length false = true := by
 rw [ends_parsed]
 have := fold_takes s As [] (atL s.length 0) (by simp; omega) (by rw [List.length_nil, atL_get (by omega)]; simp) (by simpa using h)
 simpa [hl] using this
theorem full_in : ∀ b, b < 256 → inSet fullW b = true := by decide +kernel
theorem hex_in (b : UInt8) : inSet (wordsOf [b.toNat]) b.toNat = true := by
 rw [wordsOf_bit [b.toNat] (by simpa using b.toNat_lt) b.toNat b.toNat_lt]
 simp
def hexes (s : List UInt8) : List Atom := s.map fun b => .hex b.toNat
theorem hexes_ok (s : List UInt8) : ∀ A ∈ hexes s, A.Ok := fun A hA => by
 obtain ⟨b, _, rfl⟩ := List.mem_map.1 hA
 exact b.toNat_lt
theorem hex_pr : ∀ n, n < 16 → (32 ≤ (hexLo n).toNat ∧ (hexLo n).toNat ≤ 126) ∧ 32 ≤ (hexUp n).toNat ∧ (hexUp n).toNat ≤ 126 := by decide +kernel
theorem txtA_pr {A : Atom} (h : A.Ok) : (txtA A).length ≤ 4 ∧ ∀ b ∈ txtA A, 32 ≤ b.toNat ∧ b.toNat ≤ 126 := by
 cases A with
 | hex n =>
  have hn : n < 256 := h
  have h1 := hex_pr (n / 16) (by omega)
  have h2 := hex_pr (n % 16) (by omega)
  refine ⟨by simp [txtA], fun b hb => ?_⟩
  simp only [txtA, List.mem_cons, List.not_mem_nil, or_false] at hb
  rcases hb with rfl | rfl | rfl | rfl
  ·decide
  ·decide
  ·exact h1.1
  ·exact h2.2
 | dot => exact ⟨by simp [txtA], fun b hb => by simp [txtA] at hb; subst hb; decide⟩
 | cls =>
  refine ⟨by simp [txtA], fun b hb => ?_⟩
  simp only [txtA, List.mem_cons, List.not_mem_nil, or_false] at hb
  rcases hb with rfl | rfl | rfl <;> decide
theorem txtL_pr {As : List Atom} (h : ∀ A ∈ As, A.Ok) (hn : As.length ≤ 100) : Pr (txtL As) := by
 have hl : ∀ l : List Atom, (∀ A ∈ l, A.Ok) → (txtL l).length ≤ 4 * l.length := by
  intro l
  induction l with
  | nil => intro _; simp [txtL]
  | cons A l ih =>
   intro h
   have h1 := (txtA_pr (h A (by simp))).1
   have h2 := ih fun B hB => h B (by simp [hB])
   rw [show txtL (A :: l) = txtA A ++ txtL l from rfl, List.length_append, List.length_cons]
   omega
 refine ⟨by have := hl As h; omega, fun b hb => ?_⟩
 obtain ⟨A, hA, hb⟩ := List.mem_flatMap.1 hb
 exact (txtA_pr (h A hA)).2 b hb
section
variable {E : Env} [R : ParR E]
theorem txt_hexes_next (s : List UInt8) {i : Nat} {b : UInt8} (hb : s[i]? = some b) : txtL (hexes (s.take (i + 1))) = txtL (hexes (s.take i)) ++ [92, 120, hexLo (b.toNat / 16), hexUp (b.toNat % 16)] := by
 rw [List.take_add_one, hb]
 unfold hexes
 rw [List.map_append, txtL_app]
 rfl
theorem lo_slice : ∀ n, n < 16 → (Gn.GnP_s2.drop n).take 1 = [hexLo n] := by decide +kernel
theorem up_slice : ∀ n, n < 16 → (Gn.GnP_s3.drop n).take 1 = [hexUp n] := by decide +kernel
set_option maxHeartbeats 4000000 in
theorem rxparseTakes_den (K : PaK E) (hR : HasDen E R.n_hackleref01_Has .i64) (ha : ∀ H, den E R.n_hacklelaw06_alive [] H = some (.ret (.bool true), H)) (s : List UInt8) (hs : s.length ≤ 9223372036854775807) : den E R.n_hacklelaw06_RxparseTakes [.str s] [] = some (.ret (.bool true), []) := by
 have al := fun H => ha H
 refine den_of R.d_hacklelaw06_RxparseTakes (by simp) ?_
 unfold Gn.hacklelaw06_RxparseTakes Gn.hacklelaw06_RxparseTakes_r
 by_cases h90 : 90 < s.length
 ·repeat' first | (simp (disch := first | omega | assumption) only [go_sem, simprocAttr, *]) | refine HG_split (fun hb=>?_) fun hb=>?_ | refine HC_split (fun hb=>?_) fun hb=>?_
  all_goals (try simp only [FX] at *)
  all_goals first | omega | exact finV_drop (H := []) rfl rfl
 refine Hd_cut2 (fun t H' => Sl t [(0, .str s)] ∧ H' = []) ?_ ?_
 ·repeat' first | (simp (disch := first | omega | assumption) only [go_sem, simprocAttr, Sl, *]) | refine HG_split (fun hb=>?_) fun hb=>?_ | refine HC_split (fun hb=>?_) fun hb=>?_
 rintro t _ ⟨ht, rfl⟩
 simp (disch := omega) only [go_sem, simprocAttr, Sl] at ht
 refine Hd_cut2 (fun t H' => Sl t [(0, .str s)] ∧ H' = []) ?_ ?_
 ·repeat' first | (simp (disch := first | omega | assumption) only [go_sem, simprocAttr, Sl, *]) | refine HG_split (fun hb=>?_) fun hb=>?_ | refine HC_split (fun hb=>?_) fun hb=>?_
  all_goals (try simp only [FX] at *)
  all_goals first | omega | skip
  all_goals simp [ht]
 rintro t2 _ ⟨ht2, rfl⟩
 simp (disch := omega) only [go_sem, simprocAttr, Sl] at ht2
 clear ht t
 refine Hd_cut2 (fun t H' => Sl t [(0, .str s)] ∧ H' = []) ?_ ?_
 ·repeat' first | (simp (disch := first | omega | assumption) only [go_sem, simprocAttr, Sl, *]) | refine HG_split (fun hb=>?_) fun hb=>?_ | refine HC_split (fun hb=>?_) fun hb=>?_
  all_goals (try simp only [FX] at *)
  all_goals first | omega | skip
  all_goals simp [ht2]
 rintro t _ ⟨ht, rfl⟩
 simp (disch := omega) only [go_sem, simprocAttr, Sl] at ht
 clear ht2 t2
 refine Hd_cut2 (fun t H' => Sl t [(0, .str s), (3, .str [])] ∧ H' = []) ?_ ?_
 ·repeat' first | (simp (disch := first | omega | assumption) only [go_sem, simprocAttr, Sl, *]) | refine HG_split (fun hb=>?_) fun hb=>?_ | refine HC_split (fun hb=>?_) fun hb=>?_
  all_goals simp [ht]
 rintro t2 _ ⟨ht2, rfl⟩
 simp (disch := omega) only [go_sem, simprocAttr, Sl] at ht2
 clear ht t
 refine Hd_cut2 (fun t H' => Sl t [(0, .str s), (3, .str (txtL (hexes s)))] ∧ H' = []) ?_ ?_
 ·repeat' first | (simp (disch := first | omega | assumption) only [go_sem, simprocAttr, *]) | refine HG_split (fun hb=>?_) fun hb=>?_ | refine HC_split (fun hb=>?_) fun hb=>?_
  refine while_of (ι := Nat) (fun i => i ≤ s.length) (fun i => s.length - i) (fun i => [(0, .str s), (3, .str (txtL (hexes (s.take i)))), (4, .int .i64 i)]) (fun _ => []) 0 (by omega) ?_ rfl ?_
  ·simp (disch := omega) only [go_sem, simprocAttr, Sl, ht2]
   all_goals simp [txtL, hexes]
  clear ht2 t2
  rintro i t hi ht K2 hK
  simp (disch := omega) only [go_sem, simprocAttr, Sl] at ht
  by_cases hlt : i < s.length
  ·obtain ⟨b, hb⟩ := get_some hlt
   have hb8 : b.toNat < 256 := b.toNat_lt
   have hnx := txt_hexes_next s hb
   have go := fun s' H' => hK (i + 1) s' H' (by omega) (by omega)
   rw [hnx] at go
   have hTl := (txtL_pr (hexes_ok (s.take i)) (by simp [hexes]; omega)).1
   generalize txtL (hexes (s.take i)) = T at ht go hTl
   have e1 : ((b.toNat : Int) / 16) = ((b.toNat / 16 : Nat) : Int) := by omega
   have e2 : ((b.toNat : Int) % 16) = ((b.toNat % 16 : Nat) : Int) := by omega
   have s1 := lo_slice (b.toNat / 16) (by omega)
   have s2 := up_slice (b.toNat % 16) (by omega)
   have l2 : Gn.GnP_s2.length = 16 := rfl
   have l3 : Gn.GnP_s3.length = 16 := rfl
   have k1 : b.toNat / 16 < 16 := by omega
   have k2 : b.toNat % 16 < 16 := by omega
   obtain ⟨n1, m1⟩ : ∃ n, b.toNat / 16 = n := ⟨_, rfl⟩
   obtain ⟨n2, m2⟩ : ∃ n, b.toNat % 16 = n := ⟨_, rfl⟩
   rw [m1] at e1 s1 k1 go
   rw [m2] at e2 s2 k2 go
   have f11 : (0 : Int) ≤ n1 := by omega
   have f12 : (0 : Int) ≤ (n1 : Int) + 1 := by omega
   have f13 : (n1 : Int) + 1 ≤ 16 := by omega
   have f14 : ((n1 : Int) + 1).toNat = n1 + 1 := by omega
   have f15 : (n1 : Int) ≤ ((n1 + 1 : Nat) : Int) := by omega
   have f16 : n1 + 1 - n1 = 1 := by omega
   have f21 : (0 : Int) ≤ n2 := by omega
   have f22 : (0 : Int) ≤ (n2 : Int) + 1 := by omega
   have f23 : (n2 : Int) + 1 ≤ 16 := by omega
   have f24 : ((n2 : Int) + 1).toNat = n2 + 1 := by omega
   have f25 : (n2 : Int) ≤ ((n2 + 1 : Nat) : Int) := by omega
   have f26 : n2 + 1 - n2 = 1 := by omega
   have f17 : IntKind.i64.wrap ((n1 : Int) + 1) = (n1 : Int) + 1 := Abs.wrap_i64 (by omega) (by omega)
   have f27 : IntKind.i64.wrap ((n2 : Int) + 1) = (n2 : Int) + 1 := Abs.wrap_i64 (by omega) (by omega)
   clear hK hnx
   repeat' first | (simp (disch := first | omega | assumption) only [go_sem, simprocAttr, *]) | refine HG_split (fun hb=>?_) fun hb=>?_ | refine HC_split (fun hb=>?_) fun hb=>?_
   all_goals (try simp only [FX] at *)
   all_goals first | omega | skip
   refine go _ _ ?_ rfl
   simp (disch := omega) only [go_sem, simprocAttr, Sl, ht, and_self, cast_succ]
  ·have hie : i = s.length := by omega
   subst hie
   rw [List.take_length] at ht
   clear hK
   repeat' first | (simp (disch := first | omega | assumption) only [go_sem, simprocAttr, *]) | refine HG_split (fun hb=>?_) fun hb=>?_ | refine HC_split (fun hb=>?_) fun hb=>?_
   all_goals (try simp only [FX] at *)
   all_goals first | omega | skip
   simp (disch := omega) only [go_sem, simprocAttr, Sl, ht, and_self]
 rintro t _ ⟨ht, rfl⟩
 simp (disch := omega) only [go_sem, simprocAttr, Sl] at ht
 clear ht2 t2
 have hT1 := txtL_pr (hexes_ok s) (by simp [hexes]; omega)
 have hA2 : ∀ A ∈ Atom.dot :: (hexes s ++ [Atom.cls]), A.Ok := fun A hA => by
  rcases List.mem_cons.1 hA with rfl | hA
  ·exact trivial
  ·rcases List.mem_append.1 hA with hA | hA
   ·exact hexes_ok s A hA
   ·simp only [List.mem_cons, List.not_mem_nil, or_false] at hA
    subst hA
    exact trivial
 have hT2 := txtL_pr hA2 (by simp [hexes]; omega)
 have hm1 := parsed_may (hexes s) (by simp [hexes]; omega)
 have hm2 := parsed_may (Atom.dot :: (hexes s ++ [Atom.cls])) (by simp [hexes]; omega)
 have hp1 := fun H => parse_den (R := R) K (hexes s) (hexes_ok s) (by simp [hexes]; omega) hT1 hm1 H
 have hp2 := fun H => parse_den (R := R) K (Atom.dot :: (hexes s ++ [Atom.cls])) hA2 (by simp [hexes]; omega) hT2 hm2 H
 rw [show txtL (Atom.dot :: (hexes s ++ [Atom.cls])) = 46 :: (txtL (hexes s) ++ [91, 94, 93]) by
  rw [show Atom.dot :: (hexes s ++ [Atom.cls]) = [Atom.dot] ++ (hexes s ++ [Atom.cls]) from rfl, txtL_app, txtL_app]; rfl] at hp2
 obtain ⟨_, _, h3⟩ := parsed_ok (hexes s) (hexes_ok s) (by simp [hexes]; omega)
 obtain ⟨_, _, h4⟩ := parsed_ok (Atom.dot :: (hexes s ++ [Atom.cls])) hA2 (by simp [hexes]; omega)
 have hn1 : nodesT (parsedT (hexes s)) = true := by unfold mayT at hm1; simp only [Bool.and_eq_true] at hm1; exact hm1.2.2
 have hn2 : nodesT (parsedT (Atom.dot :: (hexes s ++ [Atom.cls]))) = true := by unfold mayT at hm2; simp only [Bool.and_eq_true] at hm2; exact hm2.2.2
 have ht1 := fun H => takes_den (R := R.toEndR) hR s (by omega) h3 hn1 H
 have ht2 := fun H => takes_den (R := R.toEndR) hR (10 :: (s ++ [255])) (by simp; omega) h4 hn2 H
 rw [parsed_takes s (hexes s) (by simp [hexes]) (fun i A b hA hb => by
  unfold hexes at hA
  rw [List.getElem?_map, hb] at hA
  simp only [Option.map_some, Option.some.injEq] at hA
  subst hA
  exact hex_in b)] at ht1
 rw [parsed_takes (10 :: (s ++ [255])) (Atom.dot :: (hexes s ++ [Atom.cls])) (by simp [hexes]) (fun i A b hA hb => by
  cases i with
  | zero =>
   simp only [List.getElem?_cons_zero, Option.some.injEq] at hA hb
   subst hA
   exact full_in _ b.toNat_lt
  | succ i =>
   simp only [List.getElem?_cons_succ] at hA hb
   by_cases hi : i < s.length
   ·rw [List.getElem?_append_left (by simpa [hexes] using hi)] at hA
    rw [List.getElem?_append_left hi] at hb
    unfold hexes at hA
    rw [List.getElem?_map, hb] at hA
    simp only [Option.map_some, Option.some.injEq] at hA
    subst hA
    exact hex_in b
   ·rw [List.getElem?_append_right (by simp [hexes]; omega)] at hA
    have := List.mem_of_getElem? hA
    simp only [List.mem_cons, List.not_mem_nil, or_false] at this
    subst this
    exact full_in _ b.toNat_lt)] at ht2
 obtain ⟨c1, z1, a1, a2, a3, a4⟩ : ∃ cs, (parsedT (hexes s)).E = .agg cs ∧ cs.length = 8 ∧ cs.all EV.one = true ∧ cs.take 8 = cs ∧ cs.drop 8 = [] := by
  obtain ⟨a1, a2, a3, a4⟩ := RT.box h3
  exact ⟨_, a3.symm, a1, a2, a4, List.drop_eq_nil_of_le (by omega)⟩
 obtain ⟨c2, z2, b1, b2, b3, b4⟩ : ∃ cs, (parsedT (Atom.dot :: (hexes s ++ [Atom.cls]))).E = .agg cs ∧ cs.length = 8 ∧ cs.all EV.one = true ∧ cs.take 8 = cs ∧ cs.drop 8 = [] := by
  obtain ⟨a1, a2, a3, a4⟩ := RT.box h4
  exact ⟨_, a3.symm, a1, a2, a4, List.drop_eq_nil_of_le (by omega)⟩
 simp only [z1] at hp1 ht1
 simp only [z2] at hp2 ht2
 have hTl := hT1.1
 clear hT1 hT2 hA2 hm1 hm2 h3 h4 hn1 hn2 z1 z2 al ha K hR
 generalize txtL (hexes s) = T at hp1 hp2 ht hTl
 repeat' first | (simp (disch := first | omega | assumption) only [go_sem, simprocAttr, *]) | refine HG_split (fun hb=>?_) fun hb=>?_ | refine HC_split (fun hb=>?_) fun hb=>?_
 all_goals (try simp only [FX] at *)
 all_goals first | omega | exact finV_drop (H := []) rfl rfl | skip
end
end Abs
