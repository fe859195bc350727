/- The walks of the small ones, of Expand and of Pack. -/
import Derived.Test.YteakgeplefjncaaLeaf
import Derived.Lib.Strings
import Derived.Lib.Slices
import Derived.Lib.Small
import Derived.Lib.Walk
import Derived.Lib.BitFns
set_option linter.unusedVariables false
set_option linter.unusedSimpArgs false
namespace Go.Proofs.Yteakgeplefjncaa
open Go.RowKit

set_option maxHeartbeats 1000000 in
set_option maxRecDepth 100000 in
theorem bits_Len32 (x : Int) (w : World) (h0 : 0 ≤ x) (h1 : x ≤ 4294967295) :
    Calls Try.prog 67 #[.int .u32 x] w fun e w' => e = .returned (.int .i64 (Lib.bitLen x.toNat)) ∧ w' = w := by
  rcases (show x < 256 ∨ (256 ≤ x ∧ x < 65536) ∨ (65536 ≤ x ∧ x / 65536 < 256) ∨ (65536 ≤ x ∧ 256 ≤ x / 65536) by omega) with k | ⟨k, k'⟩ | ⟨k, k'⟩ | ⟨k, k'⟩
  · have m : x % 256 = x := by omega
    have c1 : ¬ 65536 ≤ x := by omega
    have c2 : ¬ 256 ≤ x := by omega
    have y0 : 0 ≤ x := by omega
    have y1 : x ≤ 255 := by omega
    have l := Lib.bitLen_le8' (x) y0 y1
    have e := Lib.len8_of (x) y0 y1
    obtain ⟨L, hL⟩ : ∃ L, (Lib.bitLen (x).toNat : Int) = L := ⟨_, rfl⟩
    have HB : Hid ((Lib.bitLen x.toNat : Int) = 0 + L) := Lib.hid (by rw [← hL]; omega)
    rw [hL] at e
    have l0 : 0 ≤ L ∧ L ≤ 8 := by omega
    have w1 : wrap64 L = L := by unfold wrap64; omega
    have w2 : wrap64 (0 + L) = 0 + L := by unfold wrap64; omega
    clear l l0 hL
    rw [HB.out]
    go_enter Try.func67, Try.ntmps67
    go_wp2_with fail
    exact bodyPost_ret (v := .int .i64 L) (by simp [results, Try.results67, go_sem, e, w1, w2]) rfl ⟨rfl, rfl⟩
  · have m : x / 256 % 256 = x / 256 := by omega
    have c1 : ¬ 65536 ≤ x := by omega
    have y0 : 0 ≤ x / 256 := by omega
    have y1 : x / 256 ≤ 255 := by omega
    have l := Lib.bitLen_le8' (x / 256) y0 y1
    have e := Lib.len8_of (x / 256) y0 y1
    obtain ⟨L, hL⟩ : ∃ L, (Lib.bitLen (x / 256).toNat : Int) = L := ⟨_, rfl⟩
    have HB : Hid ((Lib.bitLen x.toNat : Int) = 8 + L) := Lib.hid (by rw [← hL]; have s := Lib.bitLen_shift8 x.toNat (by omega) (by omega); rw [show (x / 256).toNat = x.toNat / 256 by omega]; omega)
    rw [hL] at e
    have l0 : 0 ≤ L ∧ L ≤ 8 := by omega
    have w1 : wrap64 L = L := by unfold wrap64; omega
    have w2 : wrap64 (8 + L) = 8 + L := by unfold wrap64; omega
    clear l l0 hL
    rw [HB.out]
    go_enter Try.func67, Try.ntmps67
    go_wp2_with fail
    exact bodyPost_ret (v := .int .i64 (8 + L)) (by simp [results, Try.results67, go_sem, e, w1, w2]) rfl ⟨rfl, rfl⟩
  · have m : x / 65536 % 256 = x / 65536 := by omega
    have c2 : ¬ 256 ≤ x / 65536 := by omega
    have y0 : 0 ≤ x / 65536 := by omega
    have y1 : x / 65536 ≤ 255 := by omega
    have l := Lib.bitLen_le8' (x / 65536) y0 y1
    have e := Lib.len8_of (x / 65536) y0 y1
    obtain ⟨L, hL⟩ : ∃ L, (Lib.bitLen (x / 65536).toNat : Int) = L := ⟨_, rfl⟩
    have HB : Hid ((Lib.bitLen x.toNat : Int) = 16 + L) := Lib.hid (by rw [← hL]; have s := Lib.bitLen_shift16 x.toNat (by omega) (by omega); rw [show (x / 65536).toNat = x.toNat / 65536 by omega]; omega)
    rw [hL] at e
    have l0 : 0 ≤ L ∧ L ≤ 8 := by omega
    have w1 : wrap64 L = L := by unfold wrap64; omega
    have w2 : wrap64 (16 + L) = 16 + L := by unfold wrap64; omega
    clear l l0 hL
    rw [HB.out]
    go_enter Try.func67, Try.ntmps67
    go_wp2_with fail
    exact bodyPost_ret (v := .int .i64 (16 + L)) (by simp [results, Try.results67, go_sem, e, w1, w2]) rfl ⟨rfl, rfl⟩
  · have m : x / 65536 / 256 % 256 = x / 65536 / 256 := by omega
    have y0 : 0 ≤ x / 65536 / 256 := by omega
    have y1 : x / 65536 / 256 ≤ 255 := by omega
    have l := Lib.bitLen_le8' (x / 65536 / 256) y0 y1
    have e := Lib.len8_of (x / 65536 / 256) y0 y1
    obtain ⟨L, hL⟩ : ∃ L, (Lib.bitLen (x / 65536 / 256).toNat : Int) = L := ⟨_, rfl⟩
    have HB : Hid ((Lib.bitLen x.toNat : Int) = 24 + L) := Lib.hid (by rw [← hL]; have s := Lib.bitLen_shift24 x.toNat (by omega) (by omega); rw [show (x / 65536 / 256).toNat = x.toNat / 16777216 by omega]; omega)
    rw [hL] at e
    have l0 : 0 ≤ L ∧ L ≤ 8 := by omega
    have w1 : wrap64 L = L := by unfold wrap64; omega
    have w2 : wrap64 (24 + L) = 24 + L := by unfold wrap64; omega
    clear l l0 hL
    rw [HB.out]
    go_enter Try.func67, Try.ntmps67
    go_wp2_with fail
    exact bodyPost_ret (v := .int .i64 (24 + L)) (by simp [results, Try.results67, go_sem, e, w1, w2]) rfl ⟨rfl, rfl⟩
theorem bitLen_le32 (x : Int) (h0 : 0 ≤ x) (h1 : x ≤ 4294967295) : Lib.bitLen x.toNat ≤ 32 := Lib.bitLen_le x.toNat 32 (by omega) (by omega)
def clz (x : Int) : Int := 32 - (Lib.bitLen x.toNat : Int)
theorem clz_calls (w : World) (x : Int) (hx : W32 x) :
    Calls Try.prog 51 #[u x] w fun e w' => e = .returned (.int .i64 (clz x)) ∧ w' = w := by
  obtain ⟨x0, x1⟩ := hx
  have l := bitLen_le32 x x0 (by omega)
  have HL := fun w => Lib.hid (bits_Len32 x w x0 (by omega))
  unfold clz
  generalize Lib.bitLen x.toNat = m at *
  have e8 : wrap64 (32 - (m : Int)) = 32 - m := by unfold wrap64; omega
  go_enter Try.func51, Try.ntmps51
  go_wp2_with fail
  refine (HL _).out.mono ?_
  rintro e w1 ⟨rfl, rfl⟩
  go_wp2_with fail
  exact bodyPost_ret (v := .int .i64 (32 - (m : Int))) (by simp [results, Try.results51, go_sem, e8]) rfl ⟨rfl, rfl⟩

def rev (x : Int) : Int := x % 256 * 16777216 + x / 256 % 256 * 65536 + x / 65536 % 256 * 256 + x / 16777216
theorem and_parts {y : Int} (hy : W32 y) : bits .and .u32 y 16711935 = y % 256 + y / 65536 % 256 * 65536 := by
  obtain ⟨a, rfl⟩ := Int.eq_ofNat_of_zero_le hy.1
  have ha : a < 2 ^ 32 := by have := hy.2; omega
  have := and_nat a 16711935 ha (by decide)
  rw [show ((16711935 : Nat) : Int) = 16711935 from rfl] at this
  rw [this]
  have h1 : (a &&& 16711935) % 2 ^ 16 = a % 2 ^ 16 % 2 ^ 8 := by rw [Nat.and_mod_two_pow, ← Nat.and_two_pow_sub_one_eq_mod (a % 2 ^ 16) 8]
  have h2 : (a &&& 16711935) / 2 ^ 16 = a / 2 ^ 16 % 2 ^ 8 := by
    rw [← Nat.shiftRight_eq_div_pow, Nat.shiftRight_and_distrib, Nat.shiftRight_eq_div_pow, Nat.shiftRight_eq_div_pow, ← Nat.and_two_pow_sub_one_eq_mod (a / 2 ^ 16) 8]
  omega
theorem or_parts {x y : Int} (hx : W32 x) (hy : W32 y) : bits .or .u32 x y = bits .or .u32 (x % 65536) (y % 65536) + bits .or .u32 (x / 65536) (y / 65536) * 65536 := by
  obtain ⟨a, rfl⟩ := Int.eq_ofNat_of_zero_le hx.1
  obtain ⟨b, rfl⟩ := Int.eq_ofNat_of_zero_le hy.1
  have ha : a < 2 ^ 32 := by have := hx.2; omega
  have hb : b < 2 ^ 32 := by have := hy.2; omega
  have e1 := or_nat (a % 2 ^ 16) (b % 2 ^ 16) (by omega) (by omega)
  have e2 := or_nat (a / 2 ^ 16) (b / 2 ^ 16) (by omega) (by omega)
  rw [show (((a % 2 ^ 16 : Nat)) : Int) = (a : Int) % 65536 by omega, show (((b % 2 ^ 16 : Nat)) : Int) = (b : Int) % 65536 by omega] at e1
  rw [show (((a / 2 ^ 16 : Nat)) : Int) = (a : Int) / 65536 by omega, show (((b / 2 ^ 16 : Nat)) : Int) = (b : Int) / 65536 by omega] at e2
  rw [or_nat a b ha hb, e1, e2]
  have h1 : (a ||| b) % 2 ^ 16 = (a % 2 ^ 16 ||| b % 2 ^ 16) := Nat.or_mod_two_pow
  have h2 : (a ||| b) / 2 ^ 16 = (a / 2 ^ 16 ||| b / 2 ^ 16) := by
    rw [← Nat.shiftRight_eq_div_pow, Nat.shiftRight_or_distrib, Nat.shiftRight_eq_div_pow, Nat.shiftRight_eq_div_pow]
  omega
theorem rev_bits {x : Int} (hx : W32 x) :
    bits .or .u32 (bits .or .u32 (bits .and .u32 (x / 256) 16711935) (bits .and .u32 x 16711935 * 256 % 4294967296) / 65536)
      (bits .or .u32 (bits .and .u32 (x / 256) 16711935) (bits .and .u32 x 16711935 * 256 % 4294967296) * 65536 % 4294967296) = rev x := by
  obtain ⟨x0, x1⟩ := hx
  rw [and_parts (y := x / 256) ⟨by omega, by omega⟩, and_parts (y := x) ⟨x0, x1⟩]
  unfold rev
  have hb3 : x / 256 / 65536 % 256 = x / 16777216 := by omega
  rw [hb3]
  obtain ⟨b0, h0⟩ : ∃ b, x % 256 = b := ⟨_, rfl⟩
  obtain ⟨b1, h1⟩ : ∃ b, x / 256 % 256 = b := ⟨_, rfl⟩
  obtain ⟨b2, h2⟩ : ∃ b, x / 65536 % 256 = b := ⟨_, rfl⟩
  obtain ⟨b3, h3⟩ : ∃ b, x / 16777216 = b := ⟨_, rfl⟩
  have r0 : 0 ≤ b0 ∧ b0 < 256 := by omega
  have r1 : 0 ≤ b1 ∧ b1 < 256 := by omega
  have r2 : 0 ≤ b2 ∧ b2 < 256 := by omega
  have r3 : 0 ≤ b3 ∧ b3 < 256 := by omega
  rw [h0, h1, h2, h3]
  clear h0 h1 h2 h3 hb3 x0 x1
  have hB : (b0 + b2 * 65536) * 256 % 4294967296 = b0 * 256 + b2 * 16777216 := by omega
  rw [hB]
  have hC : bits .or .u32 (b1 + b3 * 65536) (b0 * 256 + b2 * 16777216) = (b1 + b0 * 256) + (b3 + b2 * 256) * 65536 := by
    rw [or_parts ⟨by omega, by omega⟩ ⟨by omega, by omega⟩]
    rw [show (b1 + b3 * 65536) % 65536 = b1 by omega, show (b1 + b3 * 65536) / 65536 = b3 by omega, show (b0 * 256 + b2 * 16777216) % 65536 = b0 * 256 by omega, show (b0 * 256 + b2 * 16777216) / 65536 = b2 * 256 by omega]
    rw [or_comm_u32 (x := b1) ⟨by omega, by omega⟩ ⟨by omega, by omega⟩, or_comm_u32 (x := b3) ⟨by omega, by omega⟩ ⟨by omega, by omega⟩]
    rw [or_u32 8 (x := b0 * 256) (y := b1) (by omega) (by omega) (by omega) (by omega) (by omega) (by omega),
      or_u32 8 (x := b2 * 256) (y := b3) (by omega) (by omega) (by omega) (by omega) (by omega) (by omega)]
    omega
  rw [hC]
  rw [show (b1 + b0 * 256 + (b3 + b2 * 256) * 65536) / 65536 = b3 + b2 * 256 by omega, show (b1 + b0 * 256 + (b3 + b2 * 256) * 65536) * 65536 % 4294967296 = (b1 + b0 * 256) * 65536 by omega]
  rw [or_comm_u32 ⟨by omega, by omega⟩ ⟨by omega, by omega⟩, or_u32 16 (by omega) (by omega) (by omega) (by omega) (by omega) (by omega)]
  omega
theorem rev_calls (w : World) (x : Int) (hx : W32 x) : Calls Try.prog 52 #[u x] w fun e w' => e = .returned (u (rev x)) ∧ w' = w := by
  have HR := Lib.hid (rev_bits hx)
  go_enter Try.func52, Try.ntmps52
  go_wp2_with fail
  go_ret
  refine ⟨?_, rfl⟩
  rw [← HR.out]
  rfl

def small (op x turn : Int) : Int × Bool :=
  let t := rot x (8 * (turn % 4).toNat)
  if op = 25 then (clz x, true)
  else if op = 26 then (rev x, true)
  else if op = 27 then (t % 256, true)
  else if op = 28 then (t % 65536, true)
  else if op = 29 then ((if 128 ≤ t % 256 then t % 256 + 4294967040 else t % 256), true)
  else if op = 30 then ((if 32768 ≤ t % 65536 then t % 65536 + 4294901760 else t % 65536), true)
  else (0, false)
def P2 (x : Int × Bool) : Value := .tuple #[u x.1, .bool x.2]

set_option maxRecDepth 100000 in
set_option maxHeartbeats 1000000 in
theorem small_calls (w : World) (op x n : Int) (hx : W32 x) :
    Calls Try.prog 30 #[.int .i64 op, u x, .int .i64 n] w fun e w' => e = .returned (P2 (small op x n)) ∧ w' = w := by
  have ha := and_i64_3 n
  obtain ⟨m, hm⟩ : ∃ m, n % 4 = m := ⟨_, rfl⟩
  have hml : 0 ≤ m ∧ m < 4 := by omega
  have hr : rot x (32 - ((-8 * m) % 32).toNat) = rot x (8 * m.toNat) := by
    rcases (show m = 0 ∨ m = 1 ∨ m = 2 ∨ m = 3 by omega) with rfl | rfl | rfl | rfl
    · exact (rot_full hx).trans (rot_zero x).symm
    · rfl
    · rfl
    · rfl
  have e5 : wrap64 (-8 * m) = -8 * m := by unfold wrap64; omega
  have HR := fun w => Lib.hid (rotl_calls w x (-8 * m) hx)
  have hw := rot_w hx (r := 8 * m.toNat) (by omega)
  have HC := fun w => Lib.hid (clz_calls w x hx)
  have HV := fun w => Lib.hid (rev_calls w x hx)
  have hc : clz x % 4294967296 = clz x := by obtain ⟨x0, x1⟩ := hx; have := bitLen_le32 x x0 (by omega); unfold clz; omega
  have hS : ∀ t, t = rot x (8 * m.toNat) → small op x n = if op = 25 then (clz x, true) else if op = 26 then (rev x, true) else if op = 27 then (t % 256, true) else if op = 28 then (t % 65536, true)
      else if op = 29 then ((if 128 ≤ t % 256 then t % 256 + 4294967040 else t % 256), true) else if op = 30 then ((if 32768 ≤ t % 65536 then t % 65536 + 4294901760 else t % 65536), true) else (0, false) := fun t ht => by
    rw [ht, ← hm]; rfl
  rw [hm] at ha
  rw [hr] at HR
  obtain ⟨t, ht⟩ : ∃ t, rot x (8 * m.toNat) = t := ⟨_, rfl⟩
  have HS := Lib.hid (hS t ht.symm)
  rw [ht] at HR hw
  have a1 := and_u32_255 hw
  have a2 := and_u32_65535 hw
  obtain ⟨t0, t1⟩ := hw
  have e6 : ∀ z : Int, IntKind.i8.wrap z = (z + 128) % 256 - 128 := fun z => by simp [IntKind.wrap, IntKind.bits, IntKind.signed]; split <;> omega
  have e7 : ∀ z : Int, IntKind.i16.wrap z = (z + 32768) % 65536 - 32768 := fun z => by simp [IntKind.wrap, IntKind.bits, IntKind.signed]; split <;> omega
  obtain ⟨y8, hy8⟩ : ∃ y, (t + 128) % 256 - 128 = y := ⟨_, rfl⟩
  obtain ⟨y16, hy16⟩ : ∃ y, (t + 32768) % 65536 - 32768 = y := ⟨_, rfl⟩
  have f8 : IntKind.i8.wrap t = y8 := (e6 t).trans hy8
  have f16 : IntKind.i16.wrap t = y16 := (e7 t).trans hy16
  have g8 : wrap32 y8 = y8 := by unfold wrap32; omega
  have g16 : wrap32 y16 = y16 := by unfold wrap32; omega
  have H8 : Hid (y8 % 4294967296 = if 128 ≤ t % 256 then t % 256 + 4294967040 else t % 256) := Lib.hid (by split <;> omega)
  have H16 : Hid (y16 % 4294967296 = if 32768 ≤ t % 65536 then t % 65536 + 4294901760 else t % 65536) := Lib.hid (by split <;> omega)
  clear hS hm hr ht hml e6 e7 hy8 hy16 t0 t1 hx
  rw [HS.out]
  rcases (show op = 25 ∨ op = 26 ∨ op = 27 ∨ op = 28 ∨ op = 29 ∨ op = 30 ∨ (¬ op = 25 ∧ ¬ op = 26 ∧ ¬ op = 27 ∧ ¬ op = 28 ∧ ¬ op = 29 ∧ ¬ op = 30) by omega) with rfl | rfl | rfl | rfl | rfl | rfl | ⟨k0, k1, k2, k3, k4, k5⟩
  · rw [if_pos rfl]
    go_enter Try.func30, Try.ntmps30
    go_wp2_with fail
    refine (HR _).out.mono ?_
    rintro e w1 ⟨rfl, rfl⟩
    go_wp2_with fail
    refine (HC _).out.mono ?_
    rintro e w1 ⟨rfl, rfl⟩
    go_wp2_with fail
    exact bodyPost_ret (v := P2 (clz x, true)) (by simp [results, Try.results30, go_sem, P2, hc]) rfl ⟨rfl, rfl⟩
  · rw [if_neg (by decide), if_pos rfl]
    go_enter Try.func30, Try.ntmps30
    go_wp2_with fail
    refine (HR _).out.mono ?_
    rintro e w1 ⟨rfl, rfl⟩
    go_wp2_with fail
    refine (HV _).out.mono ?_
    rintro e w1 ⟨rfl, rfl⟩
    go_wp2_with fail
    exact bodyPost_ret (v := P2 (rev x, true)) (by simp [results, Try.results30, go_sem, P2]) rfl ⟨rfl, rfl⟩
  · rw [if_neg (by decide), if_neg (by decide), if_pos rfl]
    go_enter Try.func30, Try.ntmps30
    go_wp2_with fail
    refine (HR _).out.mono ?_
    rintro e w1 ⟨rfl, rfl⟩
    go_wp2_with fail
    exact bodyPost_ret (v := P2 (t % 256, true)) (by simp [results, Try.results30, go_sem, P2, a1]) rfl ⟨rfl, rfl⟩
  · rw [if_neg (by decide), if_neg (by decide), if_neg (by decide), if_pos rfl]
    go_enter Try.func30, Try.ntmps30
    go_wp2_with fail
    refine (HR _).out.mono ?_
    rintro e w1 ⟨rfl, rfl⟩
    go_wp2_with fail
    exact bodyPost_ret (v := P2 (t % 65536, true)) (by simp [results, Try.results30, go_sem, P2, a2]) rfl ⟨rfl, rfl⟩
  · rw [if_neg (by decide), if_neg (by decide), if_neg (by decide), if_neg (by decide), if_pos rfl, ← H8.out]
    go_enter Try.func30, Try.ntmps30
    go_wp2_with fail
    refine (HR _).out.mono ?_
    rintro e w1 ⟨rfl, rfl⟩
    go_wp2_with fail
    exact bodyPost_ret (v := P2 (y8 % 4294967296, true)) (by simp [results, Try.results30, go_sem, P2, f8, g8]) rfl ⟨rfl, rfl⟩
  · rw [if_neg (by decide), if_neg (by decide), if_neg (by decide), if_neg (by decide), if_neg (by decide), if_pos rfl, ← H16.out]
    go_enter Try.func30, Try.ntmps30
    go_wp2_with fail
    refine (HR _).out.mono ?_
    rintro e w1 ⟨rfl, rfl⟩
    go_wp2_with fail
    exact bodyPost_ret (v := P2 (y16 % 4294967296, true)) (by simp [results, Try.results30, go_sem, P2, f16, g16]) rfl ⟨rfl, rfl⟩
  · rw [if_neg k0, if_neg k1, if_neg k2, if_neg k3, if_neg k4, if_neg k5]
    go_enter Try.func30, Try.ntmps30
    go_wp2_with fail
    refine (HR _).out.mono ?_
    rintro e w1 ⟨rfl, rfl⟩
    go_wp2_with fail
    exact bodyPost_ret (v := P2 (0, false)) (by simp [results, Try.results30, go_sem, P2]) rfl ⟨rfl, rfl⟩
end Go.Proofs.Yteakgeplefjncaa
