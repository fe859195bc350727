/- The walk of AluWide. -/
import Derived.Test.YteakgeplefjncaaSums
set_option linter.unusedVariables false
set_option linter.unusedSimpArgs false
namespace Go.Proofs.Yteakgeplefjncaa
open Go.RowKit

theorem wide_add' {xl xh yl yh : Int} (h1 : W32 xl) (h2 : W32 xh) (h3 : W32 yl) (h4 : W32 yh) :
    (sum xh yh (sum xl yl false).2.c).1 * 4294967296 + (sum xl yl false).1 = (xh * 4294967296 + xl + (yh * 4294967296 + yl)) % 18446744073709551616 ∧
      (sum xh yh (sum xl yl false).2.c).2.c = decide ((xh * 4294967296 + xl + (yh * 4294967296 + yl)) % 18446744073709551616 < xh * 4294967296 + xl) := by
  obtain ⟨a0, a1⟩ := h1
  obtain ⟨b0, b1⟩ := h2
  obtain ⟨c0, c1⟩ := h3
  obtain ⟨d0, d1⟩ := h4
  unfold sum marks
  simp only [one?, Bool.false_eq_true, if_false, Int.add_zero]
  by_cases h : 4294967296 ≤ xl + yl
  · simp only [h, decide_true, if_true]
    by_cases k : 4294967296 ≤ xh + yh + 1
    · have e1 : (xl + yl) % 4294967296 = xl + yl - 4294967296 := by omega
      have e2 : (xh + yh + 1) % 4294967296 = xh + yh + 1 - 4294967296 := by omega
      have e3 : (xh * 4294967296 + xl + (yh * 4294967296 + yl)) % 18446744073709551616 = xh * 4294967296 + xl + (yh * 4294967296 + yl) - 18446744073709551616 := by omega
      rw [e1, e2, e3]
      exact ⟨by omega, by rw [decide_eq_decide]; omega⟩
    · have e1 : (xl + yl) % 4294967296 = xl + yl - 4294967296 := by omega
      have e2 : (xh + yh + 1) % 4294967296 = xh + yh + 1 := by omega
      have e3 : (xh * 4294967296 + xl + (yh * 4294967296 + yl)) % 18446744073709551616 = xh * 4294967296 + xl + (yh * 4294967296 + yl) := by omega
      rw [e1, e2, e3]
      exact ⟨by omega, by rw [decide_eq_decide]; omega⟩
  · simp only [h, decide_false, Bool.false_eq_true, if_false, Int.add_zero]
    by_cases k : 4294967296 ≤ xh + yh
    · have e1 : (xl + yl) % 4294967296 = xl + yl := by omega
      have e2 : (xh + yh) % 4294967296 = xh + yh - 4294967296 := by omega
      have e3 : (xh * 4294967296 + xl + (yh * 4294967296 + yl)) % 18446744073709551616 = xh * 4294967296 + xl + (yh * 4294967296 + yl) - 18446744073709551616 := by omega
      rw [e1, e2, e3]
      exact ⟨by omega, by rw [decide_eq_decide]; omega⟩
    · have e1 : (xl + yl) % 4294967296 = xl + yl := by omega
      have e2 : (xh + yh) % 4294967296 = xh + yh := by omega
      have e3 : (xh * 4294967296 + xl + (yh * 4294967296 + yl)) % 18446744073709551616 = xh * 4294967296 + xl + (yh * 4294967296 + yl) := by omega
      rw [e1, e2, e3]
      exact ⟨by omega, by rw [decide_eq_decide]; omega⟩
theorem wide_sub' {xl xh yl yh : Int} (h1 : W32 xl) (h2 : W32 xh) (h3 : W32 yl) (h4 : W32 yh) :
    (sum xh (4294967295 - yh) (sum xl (4294967295 - yl) true).2.c).1 * 4294967296 + (sum xl (4294967295 - yl) true).1 = (xh * 4294967296 + xl - (yh * 4294967296 + yl)) % 18446744073709551616 ∧
      (sum xh (4294967295 - yh) (sum xl (4294967295 - yl) true).2.c).2.c = decide (yh * 4294967296 + yl ≤ xh * 4294967296 + xl) ∧
      (sum xh (4294967295 - yh) (sum xl (4294967295 - yl) true).2.c).2.n = decide (wrap64 ((xh * 4294967296 + xl - (yh * 4294967296 + yl)) % 18446744073709551616) < 0) := by
  obtain ⟨a0, a1⟩ := h1
  obtain ⟨b0, b1⟩ := h2
  obtain ⟨c0, c1⟩ := h3
  obtain ⟨d0, d1⟩ := h4
  have hw : ∀ Z : Int, 0 ≤ Z → Z < 18446744073709551616 → (wrap64 Z < 0 ↔ 9223372036854775808 ≤ Z) := fun Z z0 z1 => by unfold wrap64; omega
  unfold sum marks top
  simp only [one?, if_true]
  by_cases h : 4294967296 ≤ xl + (4294967295 - yl) + 1
  · simp only [h, decide_true, if_true]
    by_cases k : 4294967296 ≤ xh + (4294967295 - yh) + 1
    · have e1 : (xl + (4294967295 - yl) + 1) % 4294967296 = xl - yl := by omega
      have e2 : (xh + (4294967295 - yh) + 1) % 4294967296 = xh - yh := by omega
      have e3 : (xh * 4294967296 + xl - (yh * 4294967296 + yl)) % 18446744073709551616 = xh * 4294967296 + xl - (yh * 4294967296 + yl) := by omega
      have hz := hw (xh * 4294967296 + xl - (yh * 4294967296 + yl)) (by omega) (by omega)
      rw [e1, e2, e3]
      exact ⟨by omega, by rw [decide_eq_decide]; omega, by rw [decide_eq_decide, hz]; omega⟩
    · have e1 : (xl + (4294967295 - yl) + 1) % 4294967296 = xl - yl := by omega
      have e2 : (xh + (4294967295 - yh) + 1) % 4294967296 = xh - yh + 4294967296 := by omega
      have e3 : (xh * 4294967296 + xl - (yh * 4294967296 + yl)) % 18446744073709551616 = xh * 4294967296 + xl - (yh * 4294967296 + yl) + 18446744073709551616 := by omega
      have hz := hw (xh * 4294967296 + xl - (yh * 4294967296 + yl) + 18446744073709551616) (by omega) (by omega)
      rw [e1, e2, e3]
      exact ⟨by omega, by rw [decide_eq_decide]; omega, by rw [decide_eq_decide, hz]; omega⟩
  · simp only [h, decide_false, Bool.false_eq_true, if_false, Int.add_zero]
    by_cases k : 4294967296 ≤ xh + (4294967295 - yh)
    · have e1 : (xl + (4294967295 - yl) + 1) % 4294967296 = xl - yl + 4294967296 := by omega
      have e2 : (xh + (4294967295 - yh)) % 4294967296 = xh - yh - 1 := by omega
      have e3 : (xh * 4294967296 + xl - (yh * 4294967296 + yl)) % 18446744073709551616 = xh * 4294967296 + xl - (yh * 4294967296 + yl) := by omega
      have hz := hw (xh * 4294967296 + xl - (yh * 4294967296 + yl)) (by omega) (by omega)
      rw [e1, e2, e3]
      exact ⟨by omega, by rw [decide_eq_decide]; omega, by rw [decide_eq_decide, hz]; omega⟩
    · have e1 : (xl + (4294967295 - yl) + 1) % 4294967296 = xl - yl + 4294967296 := by omega
      have e2 : (xh + (4294967295 - yh)) % 4294967296 = xh - yh + 4294967295 := by omega
      have e3 : (xh * 4294967296 + xl - (yh * 4294967296 + yl)) % 18446744073709551616 = xh * 4294967296 + xl - (yh * 4294967296 + yl) + 18446744073709551616 := by omega
      have hz := hw (xh * 4294967296 + xl - (yh * 4294967296 + yl) + 18446744073709551616) (by omega) (by omega)
      rw [e1, e2, e3]
      exact ⟨by omega, by rw [decide_eq_decide]; omega, by rw [decide_eq_decide, hz]; omega⟩
theorem wide_add {x y : Int} (hx : 0 ≤ x ∧ x < 18446744073709551616) (hy : 0 ≤ y ∧ y < 18446744073709551616) :
    (sum (x / 4294967296) (y / 4294967296) (sum (x % 4294967296) (y % 4294967296) false).2.c).1 * 4294967296 + (sum (x % 4294967296) (y % 4294967296) false).1 = (x + y) % 18446744073709551616 ∧
      (sum (x / 4294967296) (y / 4294967296) (sum (x % 4294967296) (y % 4294967296) false).2.c).2.c = decide ((x + y) % 18446744073709551616 < x) := by
  have h := wide_add' (xl := x % 4294967296) (xh := x / 4294967296) (yl := y % 4294967296) (yh := y / 4294967296) ⟨by omega, by omega⟩ ⟨by omega, by omega⟩ ⟨by omega, by omega⟩ ⟨by omega, by omega⟩
  rw [show x / 4294967296 * 4294967296 + x % 4294967296 = x by omega, show y / 4294967296 * 4294967296 + y % 4294967296 = y by omega] at h
  exact h
theorem wide_sub {x y : Int} (hx : 0 ≤ x ∧ x < 18446744073709551616) (hy : 0 ≤ y ∧ y < 18446744073709551616) :
    (sum (x / 4294967296) (NOT (y / 4294967296)) (sum (x % 4294967296) (NOT (y % 4294967296)) true).2.c).1 * 4294967296 + (sum (x % 4294967296) (NOT (y % 4294967296)) true).1 = (x - y) % 18446744073709551616 ∧
      (sum (x / 4294967296) (NOT (y / 4294967296)) (sum (x % 4294967296) (NOT (y % 4294967296)) true).2.c).2.c = decide (y ≤ x) ∧
      (sum (x / 4294967296) (NOT (y / 4294967296)) (sum (x % 4294967296) (NOT (y % 4294967296)) true).2.c).2.n = decide (wrap64 ((x - y) % 18446744073709551616) < 0) := by
  rw [NOT_eq (x := y / 4294967296) ⟨by omega, by omega⟩, NOT_eq (x := y % 4294967296) ⟨by omega, by omega⟩]
  have h := wide_sub' (xl := x % 4294967296) (xh := x / 4294967296) (yl := y % 4294967296) (yh := y / 4294967296) ⟨by omega, by omega⟩ ⟨by omega, by omega⟩ ⟨by omega, by omega⟩ ⟨by omega, by omega⟩
  rw [show x / 4294967296 * 4294967296 + x % 4294967296 = x by omega, show y / 4294967296 * 4294967296 + y % 4294967296 = y by omega] at h
  exact h
theorem w64_hi (h : Int) (h0 : 0 ≤ h) (h1 : h < 4294967296) : IntKind.u64.wrap (h * 4294967296) = h * 4294967296 := by rw [wrap_u64]; omega
theorem or_hi (h l : Int) (h0 : 0 ≤ h) (h1 : h < 4294967296) (l0 : 0 ≤ l) (l1 : l < 4294967296) : bits .or .u64 (h * 4294967296) l = h * 4294967296 + l :=
  or_u64 32 (by omega) (by omega) (by omega) (by omega) (by omega) (by omega)
theorem w64_w (P : Int) (p0 : 0 ≤ P) (p1 : P < 4294967296) : IntKind.u64.wrap P = P := by rw [wrap_u64]; omega
theorem hi_w (x : Int) (hx : 0 ≤ x ∧ x < 18446744073709551616) : x / 4294967296 % 4294967296 = x / 4294967296 := by omega

/-- A box of flags that lies there and may be written. -/
structure Fx (w : World) (q : Nat) (n z c v : Bool) : Prop where
  row : w.heap[q]? = some (.cells #[.bool n, .bool z, .bool c, .bool v] 25 (0, 0))
theorem Fx.lt {w : World} {q : Nat} {n z c v : Bool} (h : Fx w q n z c v) : q < w.heap.size := (Array.getElem?_eq_some_iff.1 h.row).1
theorem Fx.keep {w w' : World} {q : Nat} {n z c v : Bool} (h : Fx w q n z c v) (hb : Below w.heap.size w w') : Fx w' q n z c v := ⟨(hb.block q h.lt).trans h.row⟩
theorem Fx.new {w w' : World} {n z c v : Bool} (hb : Below (w.alloc (.cells #[.bool n, .bool z, .bool c, .bool v] 25)).heap.size (w.alloc (.cells #[.bool n, .bool z, .bool c, .bool v] 25)) w') : Fx w' w.heap.size n z c v :=
  ⟨(hb.block _ (by rw [alloc_size]; omega)).trans (heap_alloc_new w _)⟩
theorem Fx.cells {w : World} {q : Nat} {n z c v : Bool} (h : Fx w q n z c v) : FB w q n z c v :=
  ⟨cell_of_row w _ 0 _ _ _ h.row, cell_of_row w _ 1 _ _ _ h.row, cell_of_row w _ 2 _ _ _ h.row, cell_of_row w _ 3 _ _ _ h.row⟩
theorem Fx.free {w : World} {q : Nat} {n z c v : Bool} (h : Fx w q n z c v) (i : Nat) : w.frozen? ⟨q, i, none⟩ = false := by simp [World.frozen?, h.row]
/-- The world with another box's cells set. -/
abbrev setF (w : World) (p : Nat) (n z c v : Bool) : World := (((w.setCell ⟨p, 0, none⟩ (.bool n)).setCell ⟨p, 1, none⟩ (.bool z)).setCell ⟨p, 2, none⟩ (.bool c)).setCell ⟨p, 3, none⟩ (.bool v)
theorem Fx.other {w : World} {q p : Nat} {n z c v n' z' c' v' : Bool} (h : Fx w q n z c v) (hne : q ≠ p) : Fx (setF w p n' z' c' v') q n z c v :=
  ⟨(Below.heap_setCell _ _ _ q hne).trans ((Below.heap_setCell _ _ _ q hne).trans ((Below.heap_setCell _ _ _ q hne).trans ((Below.heap_setCell _ _ _ q hne).trans h.row)))⟩

set_option maxRecDepth 100000 in
set_option maxHeartbeats 4000000 in
theorem wide_core (w : World) (x y : Int) (f : F) (hx : 0 ≤ x ∧ x < 18446744073709551616) (hy : 0 ≤ y ∧ y < 18446744073709551616) :
    Calls Try.prog 10 #[.int .u64 x, .int .u64 y, f.val] w fun e w' => e = .returned (.bool true) ∧ Below w.heap.size w w' := by
  have HL := fun w => Lib.hid (live_calls w)
  have xl : W32 (x % 4294967296) := ⟨by omega, by omega⟩
  have yl : W32 (y % 4294967296) := ⟨by omega, by omega⟩
  have xh : W32 (x / 4294967296) := ⟨by omega, by omega⟩
  have yh : W32 (y / 4294967296) := ⟨by omega, by omega⟩
  have H1 := fun w => do_calls w 5 _ _ false f xl yl
  have H3 := fun w => do_calls w 3 _ _ false f xl yl
  have H2 := fun w g => do_calls w 6 _ _ false g xh yh
  have H4 := fun w g => do_calls w 7 _ _ false g xh yh
  rw [show doM 5 (x % 4294967296) (y % 4294967296) false f = ((sum (x % 4294967296) (y % 4294967296) false).1, true, (sum (x % 4294967296) (y % 4294967296) false).2) from rfl] at H1
  rw [show doM 3 (x % 4294967296) (y % 4294967296) false f = ((sum (x % 4294967296) (NOT (y % 4294967296)) true).1, true, (sum (x % 4294967296) (NOT (y % 4294967296)) true).2) from rfl] at H3
  have H2 := fun w => H2 w (sum (x % 4294967296) (y % 4294967296) false).2
  have H4 := fun w => H4 w (sum (x % 4294967296) (NOT (y % 4294967296)) true).2
  rw [show doM 6 (x / 4294967296) (y / 4294967296) false (sum (x % 4294967296) (y % 4294967296) false).2 = ((sum (x / 4294967296) (y / 4294967296) (sum (x % 4294967296) (y % 4294967296) false).2.c).1, true, (sum (x / 4294967296) (y / 4294967296) (sum (x % 4294967296) (y % 4294967296) false).2.c).2) from rfl] at H2
  rw [show doM 7 (x / 4294967296) (y / 4294967296) false (sum (x % 4294967296) (NOT (y % 4294967296)) true).2 = ((sum (x / 4294967296) (NOT (y / 4294967296)) (sum (x % 4294967296) (NOT (y % 4294967296)) true).2.c).1, true, (sum (x / 4294967296) (NOT (y / 4294967296)) (sum (x % 4294967296) (NOT (y % 4294967296)) true).2.c).2) from rfl] at H4
  obtain ⟨wa1, wa2⟩ := wide_add hx hy
  obtain ⟨ws1, ws2, ws3⟩ := wide_sub hx hy
  have range : ∀ a b c, 0 ≤ (sum a b c).1 ∧ (sum a b c).1 < 4294967296 := fun a b c => ⟨Int.emod_nonneg _ (by decide), Int.emod_lt_of_pos _ (by decide)⟩
  have r1 := range (x % 4294967296) (y % 4294967296) false
  have r2 := range (x / 4294967296) (y / 4294967296) (sum (x % 4294967296) (y % 4294967296) false).2.c
  have r3 := range (x % 4294967296) (NOT (y % 4294967296)) true
  have r4 := range (x / 4294967296) (NOT (y / 4294967296)) (sum (x % 4294967296) (NOT (y % 4294967296)) true).2.c
  generalize sum (x / 4294967296) (y / 4294967296) (sum (x % 4294967296) (y % 4294967296) false).2.c = m2 at *
  generalize sum (x / 4294967296) (NOT (y / 4294967296)) (sum (x % 4294967296) (NOT (y % 4294967296)) true).2.c = m4 at *
  generalize sum (x % 4294967296) (y % 4294967296) false = m1 at *
  generalize sum (x % 4294967296) (NOT (y % 4294967296)) true = m3 at *
  obtain ⟨s1, ⟨an, az, ac, av⟩⟩ := m1
  obtain ⟨s2, ⟨bn, bz, bc, bv⟩⟩ := m2
  obtain ⟨s3, ⟨cn, cz, cc, cv⟩⟩ := m3
  obtain ⟨s4, ⟨dn, dz, dc, dv⟩⟩ := m4
  obtain ⟨fn, fz, fc, fv⟩ := f
  simp only at r1 r2 r3 r4 wa1 wa2 ws1 ws2 ws3
  simp only [D3, F.val] at H1 H2 H3 H4 ⊢
  have k1 := hi_w x hx
  have k2 := hi_w y hy
  have o1 := or_hi s2 s1 r2.1 r2.2 r1.1 r1.2
  have o2 := or_hi s4 s3 r4.1 r4.2 r3.1 r3.2
  have u1 := w64_w s1 r1.1 r1.2
  have u2 := w64_w s2 r2.1 r2.2
  have u3 := w64_w s3 r3.1 r3.2
  have u4 := w64_w s4 r4.1 r4.2
  have u5 := w64_hi s2 r2.1 r2.2
  have u6 := w64_hi s4 r4.1 r4.2
  have u7 := wrap_u64 (x + y)
  have u8 := wrap_u64 (x - y)
  rw [wa1] at o1
  rw [ws1] at o2
  rw [← u7] at o1 wa2
  rw [← u8] at o2 ws3
  have H1 := fun w => Lib.hid (H1 w)
  have H2 := fun w => Lib.hid (H2 w)
  have H3 := fun w => Lib.hid (H3 w)
  have H4 := fun w => Lib.hid (H4 w)
  clear wa1 ws1 range r1 r2 r3 r4 u7 u8 xl yl xh yh hx hy
  generalize hX : IntKind.u64.wrap (x + y) = X at *
  generalize hY : IntKind.u64.wrap (x - y) = Y at *
  subst wa2 ws2 ws3
  go_enter Try.func10, Try.ntmps10
  go_wp2_with fail
  refine (H1 _).out.mono ?_
  rintro e v1 ⟨rfl, hb⟩
  have FP := Lib.hid (Fx.new hb)
  have HB := Lib.hid (below_unalloc hb)
  clear hb
  go_wp2_with fail
  refine (H2 _).out.mono ?_
  rintro e v2 ⟨rfl, hb⟩
  have F9 := Lib.hid (Fx.new hb)
  have L12 := (Fx.new hb).lt
  have L1 : w.heap.size ≤ v1.heap.size := HB.out.size
  have FP := Lib.hid (FP.out.keep (below_unalloc hb))
  have HB := Lib.hid (below_then HB.out HB.out.size (below_unalloc hb))
  clear hb
  obtain ⟨p0, p1, p2, p3⟩ := FP.out.cells
  have plt := FP.out.lt
  go_wp2_with fail
  refine (HL _).out.mono ?_
  rintro e v3 ⟨rfl, hb⟩
  have F12 := Lib.hid (Fx.new hb)
  have L2 : w.heap.size ≤ v2.heap.size := HB.out.size
  have F9 := Lib.hid (F9.out.keep (below_unalloc hb))
  have FP := Lib.hid (FP.out.keep (below_unalloc hb))
  have HB := Lib.hid (below_then HB.out HB.out.size (below_unalloc hb))
  have l12 : v1.heap.size < v2.heap.size := L12
  clear hb p0 p1 p2 p3 plt
  obtain ⟨p0, p1, p2, p3⟩ := FP.out.cells
  obtain ⟨b0, b1, b2, b3⟩ := F12.out.cells
  go_wp2_with fail
  refine (H3 _).out.mono ?_
  rintro e v4 ⟨rfl, hb⟩
  have F12 := Lib.hid (F12.out.keep hb)
  have F9 := Lib.hid (F9.out.keep hb)
  have HB := Lib.hid (below_then HB.out HB.out.size hb)
  clear hb p0 p1 p2 p3 b0 b1 b2 b3
  obtain ⟨d0, d1, d2, d3⟩ := F9.out.cells
  have f9 := F9.out.free
  have t9 := F9.out.lt
  go_wp2_with fail

  refine (H4 _).out.mono ?_
  rintro e v5 ⟨rfl, hb⟩
  have F12 := Lib.hid ((F12.out.other (Nat.ne_of_gt l12)).keep hb)
  have HB := Lib.hid (below_then (below_set HB.out L1 _ _ _ _) (by simpa using HB.out.size) hb)
  clear hb d0 d1 d2 d3 f9 t9 F9
  obtain ⟨d0, d1, d2, d3⟩ := F12.out.cells
  have f12 := F12.out.free
  have t12 := F12.out.lt
  go_wp2_with fail
  go_ret
  exact ⟨by simp, below_set HB.out L2 _ _ _ _⟩
end Go.Proofs.Yteakgeplefjncaa
