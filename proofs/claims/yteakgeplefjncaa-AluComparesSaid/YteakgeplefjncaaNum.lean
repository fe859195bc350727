/- Words of 32 bits as whole numbers (no Go): masks, joins, turns. -/
import Derived.Laws.BitsLemmas
import Derived.RowKit
set_option linter.unusedVariables false
set_option linter.unusedSimpArgs false
namespace Go.Proofs.Yteakgeplefjncaa
open Go.RowKit

def W32 (x : Int) : Prop := 0 ≤ x ∧ x < 4294967296
theorem wrap_u64 (n : Int) : IntKind.u64.wrap n = n % 18446744073709551616 := by simp [IntKind.wrap, IntKind.bits, IntKind.signed]
theorem w_u32 (n : Int) (h₀ : 0 ≤ n) (h₁ : n < 2 ^ 32) : IntKind.u32.wrap n = n := by rw [IntKind.wrap_u32]; omega
theorem w_u64 (n : Int) (h₀ : 0 ≤ n) (h₁ : n < 2 ^ 64) : IntKind.u64.wrap n = n := by rw [wrap_u64]; omega

theorem and_u32 (i : Nat) (hi : i ≤ 32) (x : Int) (h : W32 x) : bits .and .u32 x (2 ^ i - 1) = x % 2 ^ i :=
  bits_mask .u32 32 (by decide) w_u32 i hi x h.1 (by have := h.2; omega)
theorem and_u64 (i : Nat) (hi : i ≤ 64) (x : Int) (h0 : 0 ≤ x) (h1 : x < 18446744073709551616) : bits .and .u64 x (2 ^ i - 1) = x % 2 ^ i :=
  bits_mask .u64 64 (by decide) w_u64 i hi x h0 (by omega)
theorem and_u32_1 {x : Int} (h : W32 x) : bits .and .u32 x 1 = x % 2 := by simpa using and_u32 1 (by decide) x h
theorem and_u32_15 {x : Int} (h : W32 x) : bits .and .u32 x 15 = x % 16 := by simpa using and_u32 4 (by decide) x h
theorem and_u32_255 {x : Int} (h : W32 x) : bits .and .u32 x 255 = x % 256 := by simpa using and_u32 8 (by decide) x h
theorem and_u32_65535 {x : Int} (h : W32 x) : bits .and .u32 x 65535 = x % 65536 := by simpa using and_u32 16 (by decide) x h
theorem and_u64_1 {x : Int} (h0 : 0 ≤ x) (h1 : x < 18446744073709551616) : bits .and .u64 x 1 = x % 2 := by simpa using and_u64 1 (by decide) x h0 h1
theorem and31 (n : Int) : bits .and .u64 (IntKind.u64.wrap n) 31 = n % 32 := by
  rw [wrap_u64]
  have := and_u64 5 (by decide) (n % 18446744073709551616) (by omega) (by omega)
  simp only [Int.reducePow, Int.reduceSub] at this
  rw [this]; omega

theorem wrap_i64_small {n : Int} (h0 : 0 ≤ n) (h1 : n < 9223372036854775808) : IntKind.i64.wrap n = n := by rw [IntKind.wrap_i64]; omega
theorem and_i64 (i : Nat) (hi : i < 63) (n : Int) : bits .and .i64 n (2 ^ i - 1) = n % 2 ^ i := by
  obtain ⟨a, ha⟩ := Int.eq_ofNat_of_zero_le (show 0 ≤ n % 18446744073709551616 by omega)
  have hal : a < 2 ^ 64 := by omega
  have hpos : 0 < 2 ^ i := Nat.two_pow_pos i
  have hp : (2 : Nat) ^ i < 2 ^ 63 := Nat.pow_lt_pow_right (by decide) hi
  have hc : ((2 : Int) ^ i - 1) = ((2 ^ i - 1 : Nat) : Int) := by rw [Int.natCast_sub hpos]; simp
  have hn : BitVec.ofInt 64 n = BitVec.ofNat 64 a := by
    apply BitVec.eq_of_toNat_eq
    rw [BitVec.toNat_ofInt, BitVec.toNat_ofNat]
    have : (2 : Int) ^ 64 = 18446744073709551616 := rfl
    simp only [Nat.reducePow, Int.cast_ofNat_Int] at *
    omega
  have hm : (2 ^ i - 1) % 2 ^ 64 = 2 ^ i - 1 := Nat.mod_eq_of_lt (by omega)
  have ham : a % 2 ^ 64 = a := Nat.mod_eq_of_lt hal
  rw [hc]
  show IntKind.i64.wrap ((((BitVec.ofInt 64 n : BitVec 64) &&& (BitVec.ofInt 64 ((2 ^ i - 1 : Nat) : Int) : BitVec 64) : BitVec 64).toNat : Nat) : Int) = _
  rw [hn, BitVec.ofInt_natCast, BitVec.toNat_and, BitVec.toNat_ofNat, BitVec.toNat_ofNat, hm, ham, Nat.and_two_pow_sub_one_eq_mod]
  have hlt : a % 2 ^ i < 2 ^ i := Nat.mod_lt _ hpos
  rw [wrap_i64_small (by omega) (by omega)]
  have hd : ((2 : Int) ^ i) ∣ 18446744073709551616 := by
    have : (18446744073709551616 : Int) = 2 ^ i * 2 ^ (64 - i) := by rw [← Int.pow_add, show i + (64 - i) = 64 by omega]; rfl
    exact ⟨_, this⟩
  rw [Int.natCast_emod, ← ha, Int.natCast_pow]
  exact Int.emod_emod_of_dvd n hd
theorem and_i64_255 (n : Int) : bits .and .i64 n 255 = n % 256 := by simpa using and_i64 8 (by decide) n
theorem and_i64_15 (n : Int) : bits .and .i64 n 15 = n % 16 := by simpa using and_i64 4 (by decide) n
theorem and_i64_3 (n : Int) : bits .and .i64 n 3 = n % 4 := by simpa using and_i64 2 (by decide) n
theorem and_i64_1 (n : Int) : bits .and .i64 n 1 = n % 2 := by simpa using and_i64 1 (by decide) n

theorem or_u32 (i : Nat) {x y : Int} (hx0 : 0 ≤ x) (hx : x % 2 ^ i = 0) (hx1 : x < 4294967296) (hy0 : 0 ≤ y) (hy : y < 2 ^ i) (hy1 : y < 4294967296) : bits .or .u32 x y = x + y :=
  bits_join .u32 32 (by decide) w_u32 i x y hx0 hx (by omega) hy0 hy (by omega)
theorem or_u64 (i : Nat) {x y : Int} (hx0 : 0 ≤ x) (hx : x % 2 ^ i = 0) (hx1 : x < 18446744073709551616) (hy0 : 0 ≤ y) (hy : y < 2 ^ i) (hy1 : y < 18446744073709551616) : bits .or .u64 x y = x + y :=
  bits_join .u64 64 (by decide) w_u64 i x y hx0 hx (by omega) hy0 hy (by omega)

/-- Two words bit by bit. -/
theorem xor_nat (a b : Nat) (ha : a < 2 ^ 32) (hb : b < 2 ^ 32) : bits .xor .u32 a b = ((a ^^^ b : Nat) : Int) := by
  show IntKind.u32.wrap ((((BitVec.ofInt 32 (a : Int) : BitVec 32) ^^^ (BitVec.ofInt 32 (b : Int) : BitVec 32) : BitVec 32).toNat : Nat) : Int) = _
  rw [BitVec.ofInt_natCast, BitVec.ofInt_natCast, BitVec.toNat_xor, BitVec.toNat_ofNat, BitVec.toNat_ofNat, Nat.mod_eq_of_lt ha, Nat.mod_eq_of_lt hb]
  have := Nat.xor_lt_two_pow ha hb
  exact w_u32 _ (by omega) (by exact_mod_cast this)
theorem or_comm_u32 {x y : Int} (hx : W32 x) (hy : W32 y) : bits .or .u32 x y = bits .or .u32 y x := by
  obtain ⟨a, rfl⟩ := Int.eq_ofNat_of_zero_le hx.1
  obtain ⟨b, rfl⟩ := Int.eq_ofNat_of_zero_le hy.1
  have ha : a < 2 ^ 32 := by have := hx.2; omega
  have hb : b < 2 ^ 32 := by have := hy.2; omega
  rw [(bits_nat .u32 32 (by decide) w_u32 a b ha hb).2, (bits_nat .u32 32 (by decide) w_u32 b a hb ha).2, Nat.or_comm]
theorem and_nat (a b : Nat) (ha : a < 2 ^ 32) (hb : b < 2 ^ 32) : bits .and .u32 a b = ((a &&& b : Nat) : Int) := (bits_nat .u32 32 (by decide) w_u32 a b ha hb).1
theorem or_nat (a b : Nat) (ha : a < 2 ^ 32) (hb : b < 2 ^ 32) : bits .or .u32 a b = ((a ||| b : Nat) : Int) := (bits_nat .u32 32 (by decide) w_u32 a b ha hb).2

def NOT (x : Int) : Int := bits .xor .u32 IntKind.u32.max x
theorem NOT_eq {x : Int} (h : W32 x) : NOT x = 4294967295 - x := by
  obtain ⟨a, rfl⟩ := Int.eq_ofNat_of_zero_le h.1
  have ha : a < 2 ^ 32 := by have := h.2; omega
  have hm : IntKind.u32.max = ((2 ^ 32 - 1 : Nat) : Int) := rfl
  unfold NOT
  rw [hm, xor_nat _ a (by decide) ha]
  have h1 : (2 ^ 32 - 1 ^^^ a) = (BitVec.allOnes 32 ^^^ BitVec.ofNat 32 a).toNat := by
    rw [BitVec.toNat_xor, BitVec.toNat_allOnes, BitVec.toNat_ofNat, Nat.mod_eq_of_lt ha]
  rw [h1, BitVec.allOnes_xor, BitVec.toNat_not, BitVec.toNat_ofNat, Nat.mod_eq_of_lt ha]
  omega

/-! ### Turns and shifts -/
/-- x turned right by r (0 to 32). -/
def rot (x : Int) (r : Nat) : Int := x / 2 ^ r + x % 2 ^ r * 2 ^ (32 - r)
theorem rot_zero (x : Int) : rot x 0 = x := by unfold rot; simp
theorem rot_full {x : Int} (h : W32 x) : rot x 32 = x := by unfold rot; obtain ⟨h0, h1⟩ := h; simp; omega
theorem pow_pos' (n : Nat) : (0 : Int) < 2 ^ n := Int.pow_pos (by decide)
theorem pow_split {r : Nat} (h : r ≤ 32) : (2 : Int) ^ (32 - r) * 2 ^ r = 4294967296 := by rw [← Int.pow_add, show 32 - r + r = 32 by omega]; rfl
theorem rot_w {x : Int} (h : W32 x) {r : Nat} (hr : r ≤ 32) : W32 (rot x r) := by
  obtain ⟨h0, h1⟩ := h
  have p := pow_pos' r
  have q := pow_pos' (32 - r)
  have e := pow_split hr
  have a0 : 0 ≤ x / 2 ^ r := Int.ediv_nonneg h0 (by omega)
  have a1 : x / 2 ^ r < 2 ^ (32 - r) := Int.ediv_lt_of_lt_mul p (by rw [e]; exact h1)
  have b0 := Int.emod_nonneg x (show (2 : Int) ^ r ≠ 0 by omega)
  have b1 : x % 2 ^ r + 1 ≤ 2 ^ r := Int.emod_lt_of_pos x p
  have c0 := Int.mul_nonneg b0 (Int.le_of_lt q)
  have c1 := Int.mul_le_mul_of_nonneg_right b1 (Int.le_of_lt q)
  rw [Int.mul_comm (2 ^ r), e, Int.add_mul] at c1
  exact ⟨by unfold rot; omega, by unfold rot; omega⟩
/-- What RotateLeft32 joins: turned left by s is turned right by 32 - s. -/
theorem rot_join {x : Int} (h : W32 x) {s : Int} (s0 : 0 ≤ s) (s1 : s < 32) :
    bits .or .u32 (x * 2 ^ s.toNat % 4294967296) (x / 2 ^ (32 - s).toNat) = rot x (32 - s.toNat) := by
  obtain ⟨k, rfl⟩ := Int.eq_ofNat_of_zero_le s0
  obtain ⟨h0, h1⟩ := h
  have hk : k < 32 := by omega
  have e1 : ((k : Int)).toNat = k := rfl
  have e2 : (32 - (k : Int)).toNat = 32 - k := by omega
  rw [e1, e2]
  have p := pow_pos' k
  have q := pow_pos' (32 - k)
  have e := pow_split (show 32 - k ≤ 32 by omega)
  rw [show 32 - (32 - k) = k by omega] at e
  have m : x * 2 ^ k % 4294967296 = x % 2 ^ (32 - k) * 2 ^ k := by rw [← e, Int.mul_comm x, Int.mul_emod_mul_of_pos _ _ p, Int.mul_comm]
  have a1 : x / 2 ^ (32 - k) < 2 ^ k := Int.ediv_lt_of_lt_mul q (by rw [e]; exact h1)
  have a0 : 0 ≤ x / 2 ^ (32 - k) := Int.ediv_nonneg h0 (by omega)
  have b0 := Int.emod_nonneg x (show (2 : Int) ^ (32 - k) ≠ 0 by omega)
  have pk : (2 : Int) ^ k ≤ 4294967296 := by have := Int.mul_le_mul_of_nonneg_left (show (1 : Int) ≤ 2 ^ (32 - k) by omega) (Int.le_of_lt p); rw [e] at this; omega
  have hz : x * 2 ^ k % 4294967296 % 2 ^ k = 0 := by rw [m]; exact Int.mul_emod_left _ _
  rw [or_u32 k (Int.emod_nonneg _ (by decide)) hz (Int.emod_lt_of_pos _ (by decide)) a0 a1 (by omega), m]
  unfold rot
  rw [show 32 - (32 - k) = k by omega]
  omega

def sgn (x : Int) : Int := if 2147483648 ≤ x then x - 4294967296 else x
def top (x : Int) : Bool := decide (2147483648 ≤ x)
/-- A word shifted, and the carry. -/
def sh (k x : Int) (m : Nat) (c : Bool) : Int × Bool :=
  if k = 4 then (x / 2 + (if c then 2147483648 else 0), x % 2 == 1)
  else if m = 0 then (x, c)
  else if k = 0 then (x * 2 ^ m % 4294967296, x * 2 ^ (m - 1) / 2147483648 % 2 == 1)
  else if k = 1 then (x / 2 ^ m, x / 2 ^ (m - 1) % 2 == 1)
  else if k = 2 then (sgn x / 2 ^ m % 4294967296, sgn x / 2 ^ (m - 1) % 2 == 1)
  else if k = 3 then (rot x (m % 32), top (rot x (m % 32)))
  else (x, c)

/-! ### Flags -/
structure F where
  n : Bool
  z : Bool
  c : Bool
  v : Bool
def F.val (f : F) : Value := .agg #[.bool f.n, .bool f.z, .bool f.c, .bool f.v]
def marks (w : Int) (c v : Bool) : F := ⟨top w, w == 0, c, v⟩
theorem top_eq {x : Int} (h : W32 x) : (x / 2147483648 == 1) = top x := by
  obtain ⟨h0, h1⟩ := h
  unfold top
  rw [Bool.eq_iff_iff]
  simp
  omega
def one? (c : Bool) : Int := if c then 1 else 0
/-- A sum with a carry, and its flags. -/
def sum (x y : Int) (c : Bool) : Int × F :=
  let s := x + y + one? c
  (s % 4294967296, marks (s % 4294967296) (decide (4294967296 ≤ s)) (sgn x + sgn y + one? c != sgn (s % 4294967296)))
def passed (c : Int) (f : F) : Bool :=
  if c = 0 then f.z else if c = 1 then !f.z else if c = 2 then f.c else if c = 3 then !f.c else if c = 4 then f.n else if c = 5 then !f.n
  else if c = 6 then f.v else if c = 7 then !f.v else if c = 8 then f.c && !f.z else if c = 9 then !f.c || f.z
  else if c = 10 then f.n == f.v else if c = 11 then !(f.n == f.v) else if c = 12 then !f.z && f.n == f.v else if c = 13 then f.z || !(f.n == f.v)
  else decide (c = 14)
end Go.Proofs.Yteakgeplefjncaa
