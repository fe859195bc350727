/- The walk of AluBySums. Printed by mkbysums.py. -/
import Derived.Test.YteakgeplefjncaaSums
set_option linter.unusedVariables false
set_option linter.unusedSimpArgs false
namespace Go.Proofs.Yteakgeplefjncaa
open Go.RowKit

theorem sum_comm (x y : Int) (c : Bool) : sum x y c = sum y x c := by
  unfold sum
  rw [Int.add_comm x y, Int.add_comm (sgn x) (sgn y)]
theorem eor_ones {b : Int} (hb : W32 b) : bits .xor .u32 b 4294967295 = NOT b := by
  obtain ⟨x, rfl⟩ := Int.eq_ofNat_of_zero_le hb.1
  have h : x < 2 ^ 32 := by have := hb.2; omega
  have e := xor_nat x 4294967295 h (by decide)
  have e2 := xor_nat 4294967295 x (by decide) h
  rw [show ((4294967295 : Nat) : Int) = 4294967295 from rfl] at e e2
  rw [e]
  unfold NOT
  rw [show IntKind.u32.max = 4294967295 from rfl, e2, Nat.xor_comm]
theorem bic_and {a b : Int} (ha : W32 a) (hb : W32 b) : bits .andNot .u32 a b = bits .and .u32 a (NOT b) := by
  rw [NOT_eq hb]
  have e : BitVec.ofInt 32 (4294967295 - b) = ~~~ BitVec.ofInt 32 b := by
    obtain ⟨x, rfl⟩ := Int.eq_ofNat_of_zero_le hb.1
    have h : x < 2 ^ 32 := by have := hb.2; omega
    apply BitVec.eq_of_toNat_eq
    rw [show (4294967295 : Int) - (x : Int) = ((4294967295 - x : Nat) : Int) by omega, BitVec.ofInt_natCast, BitVec.ofInt_natCast, BitVec.toNat_not, BitVec.toNat_ofNat, BitVec.toNat_ofNat]
    omega
  show IntKind.u32.wrap (((BitVec.ofInt 32 a &&& ~~~ BitVec.ofInt 32 b : BitVec 32).toNat : Nat) : Int) = IntKind.u32.wrap (((BitVec.ofInt 32 a &&& BitVec.ofInt 32 (4294967295 - b) : BitVec 32).toNat : Nat) : Int)
  rw [e]

/-- A box of flags that lies there. -/
structure Bx (w : World) (q : Nat) (n z c v : Bool) : Prop where
  lt : q < w.heap.size
  fb : FB w q n z c v
theorem Bx.keep {w w' : World} {q : Nat} {n z c v : Bool} (h : Bx w q n z c v) (hb : Below w.heap.size w w') : Bx w' q n z c v := ⟨Nat.lt_of_lt_of_le h.lt hb.size, fb_keep h.lt hb h.fb⟩
theorem Bx.new {w w' : World} {n z c v : Bool} (hb : Below (w.alloc (.cells #[.bool n, .bool z, .bool c, .bool v] 25)).heap.size (w.alloc (.cells #[.bool n, .bool z, .bool c, .bool v] 25)) w') : Bx w' w.heap.size n z c v := ⟨(fbox hb).1, (fbox hb).2⟩

set_option maxRecDepth 100000 in
set_option maxHeartbeats 4000000 in
theorem bysums_core (w : World) (a b : Int) (s : Bool) (f : F) (ha : W32 a) (hb : W32 b) :
    Calls Try.prog 13 #[u a, u b, .bool s, f.val] w fun e w' => e = .returned (.bool true) ∧ Below w.heap.size w w' := by
  have HL := fun w => Lib.hid (live_calls w)
  have hna := not_word a
  have hnb := not_word b
  have H1 := fun w => do_calls w 4 a b s f ha hb
  have H2 := fun w => do_calls w 3 b a s f hb ha
  have H3 := fun w => do_calls w 16 a b s f ha hb
  have H4 := fun w => do_calls w 2 b 4294967295 s f hb ⟨by decide, by decide⟩
  have H5 := fun w => do_calls w 15 a b s f ha hb
  have H6 := fun w => do_calls w 1 a (NOT b) s f ha hnb
  have H7 := fun w => do_calls w 9 a (NOT b) s f ha hnb
  have H8 := fun w => do_calls w 8 a b s f ha hb
  have H9 := fun w => do_calls w 7 b a s f hb ha
  rw [show doM 4 a b s f = ((sum (NOT a) b true).1, true, (sum (NOT a) b true).2) from rfl] at H1
  rw [show doM 3 b a s f = ((sum b (NOT a) true).1, true, (sum b (NOT a) true).2) from rfl, sum_comm b (NOT a)] at H2
  rw [show doM 16 a b s f = (NOT b, true, marks (NOT b) s f.v) from rfl] at H3
  rw [show doM 2 b 4294967295 s f = (bits .xor .u32 b 4294967295, true, marks (bits .xor .u32 b 4294967295) s f.v) from rfl, eor_ones hb] at H4
  rw [show doM 15 a b s f = (bits .andNot .u32 a b, true, marks (bits .andNot .u32 a b) s f.v) from rfl, bic_and ha hb] at H5
  rw [show doM 1 a (NOT b) s f = (bits .and .u32 a (NOT b), true, marks (bits .and .u32 a (NOT b)) s f.v) from rfl] at H6
  rw [show doM 9 a (NOT b) s f = (bits .and .u32 a (NOT b), false, marks (bits .and .u32 a (NOT b)) s f.v) from rfl] at H7
  rw [show doM 8 a b s f = ((sum (NOT a) b f.c).1, true, (sum (NOT a) b f.c).2) from rfl] at H8
  rw [show doM 7 b a s f = ((sum b (NOT a) f.c).1, true, (sum b (NOT a) f.c).2) from rfl, sum_comm b (NOT a)] at H9
  have hNOT : bits .xor .u32 IntKind.u32.max b = NOT b := rfl
  have hs := unsig
  generalize sum (NOT a) b true = m1 at *
  generalize sum (NOT a) b f.c = m2 at *
  generalize bits .and .u32 a (NOT b) = r3 at *
  generalize marks r3 s f.v = m3 at *
  generalize marks (NOT b) s f.v = m4 at *
  generalize NOT b = r4 at *
  obtain ⟨fn, fz, fc, fv⟩ := f
  obtain ⟨r1, ⟨an, az, ac, av⟩⟩ := m1
  obtain ⟨r2, ⟨bn, bz, bc, bv⟩⟩ := m2
  obtain ⟨cn, cz, cc, cv⟩ := m3
  obtain ⟨dn, dz, dc, dv⟩ := m4
  simp only [D3, F.val] at H1 H2 H3 H4 H5 H6 H7 H8 H9 ⊢
  have H1 := fun w => Lib.hid (H1 w)
  have H2 := fun w => Lib.hid (H2 w)
  have H3 := fun w => Lib.hid (H3 w)
  have H4 := fun w => Lib.hid (H4 w)
  have H5 := fun w => Lib.hid (H5 w)
  have H6 := fun w => Lib.hid (H6 w)
  have H7 := fun w => Lib.hid (H7 w)
  have H8 := fun w => Lib.hid (H8 w)
  have H9 := fun w => Lib.hid (H9 w)
  clear ha hb hna hnb
  go_enter Try.func13, Try.ntmps13
  go_wp2_with fail
  refine (H1 _).out.mono ?_
  rintro e v1 ⟨rfl, hb⟩
  have HX0 := Lib.hid (Bx.new hb)
  have HB := Lib.hid (below_unalloc hb)
  generalize hBe : w.heap.size = B at *
  have HBe := Lib.hid hBe
  clear hb hBe
  obtain ⟨t0, d0, d1, d2, d3⟩ := HX0.out
  go_wp2_with fail
  refine (H2 _).out.mono ?_
  rintro e v2 ⟨rfl, hb⟩
  have HX1 := Lib.hid (Bx.new hb)
  have HX0 := Lib.hid (HX0.out.keep (below_unalloc hb))
  have HB := Lib.hid (below_then HB.out (Nat.le_of_lt t0) (below_unalloc hb))
  clear hb t0 d0 d1 d2 d3
  obtain ⟨t0, d0, d1, d2, d3⟩ := HX0.out
  go_wp2_with fail
  refine (H3 _).out.mono ?_
  rintro e v3 ⟨rfl, hb⟩
  have HX2 := Lib.hid (Bx.new hb)
  have HX0 := Lib.hid (HX0.out.keep (below_unalloc hb))
  have HX1 := Lib.hid (HX1.out.keep (below_unalloc hb))
  have HB := Lib.hid (below_then HB.out (Nat.le_of_lt t0) (below_unalloc hb))
  clear hb t0 d0 d1 d2 d3
  obtain ⟨t0, d0, d1, d2, d3⟩ := HX0.out
  go_wp2_with fail
  refine (H4 _).out.mono ?_
  rintro e v4 ⟨rfl, hb⟩
  have HX3 := Lib.hid (Bx.new hb)
  have HX0 := Lib.hid (HX0.out.keep (below_unalloc hb))
  have HX1 := Lib.hid (HX1.out.keep (below_unalloc hb))
  have HX2 := Lib.hid (HX2.out.keep (below_unalloc hb))
  have HB := Lib.hid (below_then HB.out (Nat.le_of_lt t0) (below_unalloc hb))
  clear hb t0 d0 d1 d2 d3
  obtain ⟨t0, d0, d1, d2, d3⟩ := HX0.out
  go_wp2_with fail
  refine (H5 _).out.mono ?_
  rintro e v5 ⟨rfl, hb⟩
  have HX4 := Lib.hid (Bx.new hb)
  have HX0 := Lib.hid (HX0.out.keep (below_unalloc hb))
  have HX1 := Lib.hid (HX1.out.keep (below_unalloc hb))
  have HX2 := Lib.hid (HX2.out.keep (below_unalloc hb))
  have HX3 := Lib.hid (HX3.out.keep (below_unalloc hb))
  have HB := Lib.hid (below_then HB.out (Nat.le_of_lt t0) (below_unalloc hb))
  clear hb t0 d0 d1 d2 d3
  obtain ⟨t0, d0, d1, d2, d3⟩ := HX0.out
  go_wp2_with fail
  refine (H6 _).out.mono ?_
  rintro e v6 ⟨rfl, hb⟩
  have HX5 := Lib.hid (Bx.new hb)
  have HX0 := Lib.hid (HX0.out.keep (below_unalloc hb))
  have HX1 := Lib.hid (HX1.out.keep (below_unalloc hb))
  have HX2 := Lib.hid (HX2.out.keep (below_unalloc hb))
  have HX3 := Lib.hid (HX3.out.keep (below_unalloc hb))
  have HX4 := Lib.hid (HX4.out.keep (below_unalloc hb))
  have HB := Lib.hid (below_then HB.out (Nat.le_of_lt t0) (below_unalloc hb))
  clear hb t0 d0 d1 d2 d3
  obtain ⟨t0, d0, d1, d2, d3⟩ := HX0.out
  go_wp2_with fail
  refine (H7 _).out.mono ?_
  rintro e v7 ⟨rfl, hb⟩
  have HX6 := Lib.hid (Bx.new hb)
  have HX0 := Lib.hid (HX0.out.keep (below_unalloc hb))
  have HX1 := Lib.hid (HX1.out.keep (below_unalloc hb))
  have HX2 := Lib.hid (HX2.out.keep (below_unalloc hb))
  have HX3 := Lib.hid (HX3.out.keep (below_unalloc hb))
  have HX4 := Lib.hid (HX4.out.keep (below_unalloc hb))
  have HX5 := Lib.hid (HX5.out.keep (below_unalloc hb))
  have HB := Lib.hid (below_then HB.out (Nat.le_of_lt t0) (below_unalloc hb))
  clear hb t0 d0 d1 d2 d3
  obtain ⟨t0, d0, d1, d2, d3⟩ := HX0.out
  go_wp2_with fail
  refine (H8 _).out.mono ?_
  rintro e v8 ⟨rfl, hb⟩
  have HX7 := Lib.hid (Bx.new hb)
  have HX0 := Lib.hid (HX0.out.keep (below_unalloc hb))
  have HX1 := Lib.hid (HX1.out.keep (below_unalloc hb))
  have HX2 := Lib.hid (HX2.out.keep (below_unalloc hb))
  have HX3 := Lib.hid (HX3.out.keep (below_unalloc hb))
  have HX4 := Lib.hid (HX4.out.keep (below_unalloc hb))
  have HX5 := Lib.hid (HX5.out.keep (below_unalloc hb))
  have HX6 := Lib.hid (HX6.out.keep (below_unalloc hb))
  have HB := Lib.hid (below_then HB.out (Nat.le_of_lt t0) (below_unalloc hb))
  clear hb t0 d0 d1 d2 d3
  obtain ⟨t0, d0, d1, d2, d3⟩ := HX0.out
  go_wp2_with fail
  refine (H9 _).out.mono ?_
  rintro e v9 ⟨rfl, hb⟩
  have HX8 := Lib.hid (Bx.new hb)
  have HX0 := Lib.hid (HX0.out.keep (below_unalloc hb))
  have HX1 := Lib.hid (HX1.out.keep (below_unalloc hb))
  have HX2 := Lib.hid (HX2.out.keep (below_unalloc hb))
  have HX3 := Lib.hid (HX3.out.keep (below_unalloc hb))
  have HX4 := Lib.hid (HX4.out.keep (below_unalloc hb))
  have HX5 := Lib.hid (HX5.out.keep (below_unalloc hb))
  have HX6 := Lib.hid (HX6.out.keep (below_unalloc hb))
  have HX7 := Lib.hid (HX7.out.keep (below_unalloc hb))
  have HB := Lib.hid (below_then HB.out (Nat.le_of_lt t0) (below_unalloc hb))
  clear hb t0 d0 d1 d2 d3
  obtain ⟨t0, d0, d1, d2, d3⟩ := HX0.out
  go_wp2_with fail
  refine (HL _).out.mono ?_
  rintro e v10 ⟨rfl, hb⟩
  have HX9 := Lib.hid (Bx.new hb)
  have HX1 := Lib.hid (HX1.out.keep (below_unalloc hb))
  have HX2 := Lib.hid (HX2.out.keep (below_unalloc hb))
  have HX3 := Lib.hid (HX3.out.keep (below_unalloc hb))
  have HX4 := Lib.hid (HX4.out.keep (below_unalloc hb))
  have HX5 := Lib.hid (HX5.out.keep (below_unalloc hb))
  have HX6 := Lib.hid (HX6.out.keep (below_unalloc hb))
  have HX7 := Lib.hid (HX7.out.keep (below_unalloc hb))
  have HX8 := Lib.hid (HX8.out.keep (below_unalloc hb))
  have HB := Lib.hid (below_then HB.out (Nat.le_of_lt t0) (below_unalloc hb))
  clear hb t0 d0 d1 d2 d3
  obtain ⟨_, x10, x11, x12, x13⟩ := HX1.out
  obtain ⟨_, x20, x21, x22, x23⟩ := HX2.out
  obtain ⟨_, x50, x51, x52, x53⟩ := HX5.out
  obtain ⟨_, x60, x61, x62, x63⟩ := HX6.out
  obtain ⟨_, x70, x71, x72, x73⟩ := HX7.out
  obtain ⟨_, x80, x81, x82, x83⟩ := HX8.out
  obtain ⟨_, x90, x91, x92, x93⟩ := HX9.out
  go_wp2_with fail
  go_ret
  exact ⟨by simp, by rw [HBe.out]; exact HB.out⟩
end Go.Proofs.Yteakgeplefjncaa
