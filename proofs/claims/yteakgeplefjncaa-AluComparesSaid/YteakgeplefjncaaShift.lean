/- The walks of the shifts: the program's, and the reference's one bit after the other. -/
import Derived.Test.YteakgeplefjncaaLeaf
import Derived.BigRegion
set_option linter.unusedVariables false
set_option linter.unusedSimpArgs false
namespace Go.Proofs.Yteakgeplefjncaa
open Go.RowKit

theorem pow_up (m : Nat) (h : ¬ m = 0) : (2 : Int) ^ m = 2 * 2 ^ (m - 1) := by
  obtain ⟨j, rfl⟩ : ∃ j, m = j + 1 := ⟨m - 1, by omega⟩
  rw [Int.pow_succ, Int.mul_comm, show j + 1 - 1 = j by omega]
theorem pow_out (m j : Nat) (h : j ≤ m) : (2 : Int) ^ m = 2 ^ j * 2 ^ (m - j) := by rw [← Int.pow_add, show j + (m - j) = m by omega]
theorem sh_lsl {x : Int} {m : Nat} (c : Bool) (h : ¬ m = 0) : sh 0 x m c = (x * 2 ^ m % 4294967296, x * 2 ^ (m - 1) / 2147483648 % 2 == 1) := by simp [sh, h]
theorem sh_lsr {x : Int} {m : Nat} (c : Bool) (h : ¬ m = 0) : sh 1 x m c = (x / 2 ^ m, x / 2 ^ (m - 1) % 2 == 1) := by simp [sh, h]
theorem sh_asr {x : Int} {m : Nat} (c : Bool) (h : ¬ m = 0) : sh 2 x m c = (sgn x / 2 ^ m % 4294967296, sgn x / 2 ^ (m - 1) % 2 == 1) := by simp [sh, h]
theorem sh_ror {x : Int} {m : Nat} (c : Bool) (h : ¬ m = 0) : sh 3 x m c = (rot x (m % 32), top (rot x (m % 32))) := by simp [sh, h]

theorem lsl_far {x : Int} {m : Nat} (h : 33 < m) : x * 2 ^ m % 4294967296 = 0 ∧ x * 2 ^ (m - 1) / 2147483648 % 2 = 0 := by
  have e1 := pow_out m 32 (by omega)
  have e2 := pow_out (m - 1) 32 (by omega)
  have p32 : (2 : Int) ^ 32 = 4294967296 := rfl
  rw [p32] at e1 e2
  constructor
  · rw [e1, ← Int.mul_assoc, Int.mul_comm x, Int.mul_assoc]; exact Int.mul_emod_right _ _
  · rw [e2, ← Int.mul_assoc, Int.mul_comm x, Int.mul_assoc]
    generalize x * 2 ^ (m - 1 - 32) = z
    omega
theorem small_div {x : Int} {m : Nat} (h : 32 ≤ m) (hx : W32 x) : x / 2 ^ m = 0 := by
  apply Int.ediv_eq_zero_of_lt hx.1
  have e1 := pow_out m 32 h
  have p32 : (2 : Int) ^ 32 = 4294967296 := rfl
  rw [p32] at e1
  have := pow_pos' (m - 32)
  have := hx.2
  omega
theorem sgn_div {x : Int} {m : Nat} (h : 31 ≤ m) (hx : W32 x) : sgn x / 2 ^ m = if 2147483648 ≤ x then -1 else 0 := by
  have e1 := pow_out m 31 h
  have p32 : (2 : Int) ^ 31 = 2147483648 := rfl
  rw [p32] at e1
  have hp := pow_pos' (m - 31)
  have h1 := hx.2
  have h0 := hx.1
  unfold sgn
  split
  · rw [Int.ediv_eq_iff_of_pos (pow_pos' m)] <;> omega
  · apply Int.ediv_eq_zero_of_lt h0; omega

set_option maxRecDepth 100000 in
theorem shift_calls (w : World) (k x n : Int) (c : Bool) (hx : W32 x) :
    Calls Try.prog 22 #[.int .i64 k, u x, .int .i64 n, .bool c] w fun e w' => e = .returned (.tuple #[u (sh k x (n % 256).toNat c).1, .bool (sh k x (n % 256).toNat c).2]) ∧ Below w.heap.size w w' := by
  have ha := and_i64_255 n
  obtain ⟨m, hm⟩ := Int.eq_ofNat_of_zero_le (show 0 ≤ n % 256 by omega)
  have hml : m < 256 := by omega
  rw [hm] at ha ⊢
  have hmt : (m : Int).toNat = m := rfl
  rw [hmt]
  have a1 := and_u32_1 hx
  clear hm hmt
  have hx' := hx
  obtain ⟨x0, x1⟩ := hx
  have e1 : IntKind.u64.wrap x = x := by rw [wrap_u64]; omega
  by_cases k4 : k = 4
  · subst k4
    have hxo : Hid (bits .or .u32 (x / 2) 2147483648 = x / 2 + 2147483648) := Lib.hid (by
      rw [or_comm_u32 ⟨by omega, by omega⟩ ⟨by omega, by omega⟩, or_u32 31 (by omega) (by decide) (by omega) (by omega) (by omega) (by omega)]; omega)
    cases c with
    | true =>
      go_enter Try.func22, Try.ntmps22
      go_wp2_with fail
      exact bodyPost_ret (v := .tuple #[u (x / 2 + 2147483648), .bool (x % 2 == 1)]) (by simp [results, Try.results22, go_sem, hxo.out]) rfl ⟨by simp [sh], Below.refl _ _⟩
    | false =>
      go_enter Try.func22, Try.ntmps22
      go_wp2_with fail
      exact bodyPost_ret (v := .tuple #[u (x / 2), .bool (x % 2 == 1)]) (by simp [results, Try.results22, go_sem]) rfl ⟨by simp [sh], Below.refl _ _⟩
  · by_cases m0 : m = 0
    · have HS : Hid (sh k x m c = (x, c)) := Lib.hid (by simp [sh, k4, m0])
      have m0' : (m : Int) = 0 := by omega
      clear m0
      go_enter Try.func22, Try.ntmps22
      go_wp2_with fail
      exact bodyPost_ret (v := .tuple #[u x, .bool c]) (by simp [results, Try.results22, go_sem]) rfl ⟨by rw [HS.out], Below.refl _ _⟩
    · have m0' : ¬ (m : Int) = 0 := by omega
      have hup := pow_up m m0
      have pm := pow_pos' (m - 1)
      rcases (show k = 0 ∨ k = 1 ∨ k = 2 ∨ k = 3 ∨ (¬ k = 0 ∧ ¬ k = 1 ∧ ¬ k = 2 ∧ ¬ k = 3) by omega) with rfl | rfl | rfl | rfl | ⟨k0, k1, k2, k3⟩
      · clear k4
        have hS := sh_lsl (x := x) c m0
        by_cases h33 : m ≤ 33
        · have c1 : (m : Int) ≤ 33 := by omega
          have c2 : ¬ (33 : Int) < m := by omega
          have c3 : ¬ (m : Int) < 0 := by omega
          have c4 : (0 : Int) ≤ m := by omega
          have c5 : min (m : Int) 33 = m := by omega
          have c6 : min m 64 = m := by omega
          obtain ⟨y, hy⟩ : ∃ y, x * 2 ^ m % 18446744073709551616 = y := ⟨_, rfl⟩
          have e7 : IntKind.u64.wrap (x * 2 ^ m) = y := by rw [wrap_u64, hy]
          have e8 := and_u64_1 (x := y / 4294967296) (by omega) (by omega)
          have HS : Hid (sh 0 x m c = (y % 4294967296, y / 4294967296 % 2 == 1)) := Lib.hid (by
            rw [hS]
            have : x * 2 ^ m = 2 * (x * 2 ^ (m - 1)) := by rw [hup, ← Int.mul_assoc, Int.mul_comm x 2, Int.mul_assoc]
            rw [this] at hy ⊢
            generalize x * 2 ^ (m - 1) = z at *
            refine Prod.ext (by show 2 * z % 4294967296 = y % 4294967296; omega) ?_
            show (z / 2147483648 % 2 == 1) = (y / 4294967296 % 2 == 1)
            have : z / 2147483648 % 2 = y / 4294967296 % 2 := by omega
            rw [this])
          clear hS hup pm hy h33 m0
          go_enter Try.func22, Try.ntmps22
          go_wp2_with fail
          go_quiet (fail)
          go_wp2_with fail
          exact bodyPost_ret (v := .tuple #[u (y % 4294967296), .bool (y / 4294967296 % 2 == 1)]) (by simp [results, Try.results22, go_sem]) rfl ⟨by rw [HS.out], below_drewN (Below.refl _ _) _⟩
        · have c1 : ¬ (m : Int) ≤ 33 := by omega
          have c2 : (33 : Int) < m := by omega
          have c5 : min (m : Int) 33 = 33 := by omega
          have hf := lsl_far (x := x) (m := m) (by omega)
          have HS : Hid (sh 0 x m c = (0, false)) := Lib.hid (by rw [hS, hf.1, hf.2]; rfl)
          obtain ⟨y, hy⟩ : ∃ y, x * 8589934592 % 18446744073709551616 = y := ⟨_, rfl⟩
          have e7 : IntKind.u64.wrap (x * 8589934592) = y := by rw [wrap_u64, hy]
          have e8 := and_u64_1 (x := y / 4294967296) (by omega) (by omega)
          have HY : Hid (y % 4294967296 = 0 ∧ y / 4294967296 % 2 = 0) := Lib.hid ⟨by omega, by omega⟩
          clear hS hup pm hy hf h33 m0
          go_enter Try.func22, Try.ntmps22
          go_wp2_with fail
          go_quiet (fail)
          go_wp2_with fail
          exact bodyPost_ret (v := .tuple #[u (y % 4294967296), .bool (y / 4294967296 % 2 == 1)]) (by simp [results, Try.results22, go_sem]) rfl ⟨by rw [HS.out, HY.out.1, HY.out.2]; rfl, below_drewN (Below.refl _ _) _⟩
      · clear k4
        have hS := sh_lsr (x := x) c m0
        have e6 : IntKind.u64.wrap (x * 2) = x * 2 := by rw [wrap_u64]; omega
        by_cases h33 : m ≤ 33
        · have c1 : (m : Int) ≤ 33 := by omega
          have c2 : ¬ (33 : Int) < m := by omega
          have c3 : ¬ (m : Int) < 0 := by omega
          have c4 : (0 : Int) ≤ m := by omega
          have c5 : min (m : Int) 33 = m := by omega
          have c6 : min m 64 = m := by omega
          have z0 : 0 ≤ x / 2 ^ (m - 1) := Int.ediv_nonneg x0 (by omega)
          have z1 : x / 2 ^ (m - 1) ≤ x := Int.ediv_le_self _ x0
          have hz : x * 2 / 2 ^ m = x / 2 ^ (m - 1) := by rw [hup, Int.mul_comm x 2]; exact Int.mul_ediv_mul_of_pos _ _ (by decide)
          have hz2 : x / 2 ^ m = x / 2 ^ (m - 1) / 2 := by rw [hup, Int.mul_comm 2, Int.ediv_ediv_of_nonneg (by omega)]
          have e8 := and_u64_1 (x := x / 2 ^ (m - 1)) z0 (by omega)
          have HS : Hid (sh 1 x m c = (x / 2 ^ (m - 1) / 2 % 4294967296, x / 2 ^ (m - 1) % 2 == 1)) := Lib.hid (by
            rw [hS, hz2]
            refine Prod.ext ?_ rfl
            show x / 2 ^ (m - 1) / 2 = _
            omega)
          clear hS hup pm h33 m0 hz2 z0 z1
          go_enter Try.func22, Try.ntmps22
          go_wp2_with fail
          exact bodyPost_ret (v := .tuple #[u (x / 2 ^ (m - 1) / 2 % 4294967296), .bool (x / 2 ^ (m - 1) % 2 == 1)]) (by simp [results, Try.results22, go_sem, hz, e8]) rfl ⟨by rw [HS.out], Below.refl _ _⟩
        · have c1 : ¬ (m : Int) ≤ 33 := by omega
          have c2 : (33 : Int) < m := by omega
          have c5 : min (m : Int) 33 = 33 := by omega
          have hf1 := small_div (x := x) (m := m) (by omega) hx'
          have hf2 := small_div (x := x) (m := m - 1) (by omega) hx'
          have HS : Hid (sh 1 x m c = (0, false)) := Lib.hid (by rw [hS, hf1, hf2]; rfl)
          have e7 : x * 2 / 8589934592 = 0 := by omega
          have e8 := and_u64_1 (x := 0) (by omega) (by omega)
          clear hS hup pm hf1 hf2 h33 m0
          go_enter Try.func22, Try.ntmps22
          go_wp2_with fail
          exact bodyPost_ret (v := .tuple #[u 0, .bool false]) (by simp [results, Try.results22, go_sem, e7, e8]) rfl ⟨by rw [HS.out], Below.refl _ _⟩
      · clear k4
        have hS := sh_asr (x := x) c m0
        have e5 : wrap32 x = sgn x := by unfold wrap32 sgn; split <;> omega
        have sb : -2147483648 ≤ sgn x ∧ sgn x < 2147483648 := by unfold sgn; split <;> omega
        have hsd := fun h => sgn_div (x := x) (m := m) h hx'
        have hsd1 := fun h => sgn_div (x := x) (m := m - 1) h hx'
        obtain ⟨s, hs⟩ : ∃ s, sgn x = s := ⟨_, rfl⟩
        rw [hs] at e5 sb hS hsd hsd1
        obtain ⟨s0, s1⟩ := sb
        have e6 : wrap64 s = s := by unfold wrap64; omega
        have e7 : wrap64 (s * 2) = s * 2 := by unfold wrap64; omega
        by_cases h33 : m ≤ 32
        · have c1 : (m : Int) ≤ 32 := by omega
          have c2 : ¬ (32 : Int) < m := by omega
          have c3 : ¬ (m : Int) < 0 := by omega
          have c4 : (0 : Int) ≤ m := by omega
          have c5 : min (m : Int) 32 = m := by omega
          have c6 : min m 64 = m := by omega
          have hz : s * 2 / 2 ^ m = s / 2 ^ (m - 1) := by rw [hup, Int.mul_comm s 2]; exact Int.mul_ediv_mul_of_pos _ _ (by decide)
          have hz2 : s / 2 ^ m = s / 2 ^ (m - 1) / 2 := by rw [hup, Int.mul_comm 2, Int.ediv_ediv_of_nonneg (by omega)]
          have e8 := and_i64_1 (s / 2 ^ (m - 1))
          have HS : Hid (sh 2 x m c = (s / 2 ^ (m - 1) / 2 % 4294967296, s / 2 ^ (m - 1) % 2 == 1)) := Lib.hid (by rw [hS, hz2])
          clear hS hup pm h33 m0 hz2 hsd hsd1 hs
          go_enter Try.func22, Try.ntmps22
          go_wp2_with fail
          exact bodyPost_ret (v := .tuple #[u (s / 2 ^ (m - 1) / 2 % 4294967296), .bool (s / 2 ^ (m - 1) % 2 == 1)]) (by simp [results, Try.results22, go_sem, hz, e8]) rfl ⟨by rw [HS.out], Below.refl _ _⟩
        · have c1 : ¬ (m : Int) ≤ 32 := by omega
          have c2 : (32 : Int) < m := by omega
          have c5 : min (m : Int) 32 = 32 := by omega
          have h1 := hsd (by omega)
          have h2 := hsd1 (by omega)
          have e8 := and_i64_1 (s * 2 / 4294967296)
          have HS : Hid (sh 2 x m c = (s * 2 / 4294967296 / 2 % 4294967296, s * 2 / 4294967296 % 2 == 1)) := Lib.hid (by
            have : s * 2 / 4294967296 = if 2147483648 ≤ x then -1 else 0 := by rw [← hs]; unfold sgn; split <;> omega
            rw [hS, h1, h2, this]
            split <;> rfl)
          clear hS hup pm h1 h2 h33 m0 hsd hsd1 hs
          go_enter Try.func22, Try.ntmps22
          go_wp2_with fail
          exact bodyPost_ret (v := .tuple #[u (s * 2 / 4294967296 / 2 % 4294967296), .bool (s * 2 / 4294967296 % 2 == 1)]) (by simp [results, Try.results22, go_sem, e8]) rfl ⟨by rw [HS.out], Below.refl _ _⟩
      · clear k4
        have hS := sh_ror (x := x) c m0
        have hr : rot x (32 - ((-(m : Int)) % 32).toNat) = rot x (m % 32) := by
          by_cases hz : m % 32 = 0
          · have e : ((-(m : Int)) % 32).toNat = 0 := by omega
            rw [e, hz, rot_zero]; exact rot_full hx'
          · have e : 32 - ((-(m : Int)) % 32).toNat = m % 32 := by omega
            rw [e]
        have hw := rot_w hx' (r := m % 32) (by omega)
        have HR := fun w => Lib.hid (rotl_calls w x (-(m : Int)) hx')
        rw [hr] at HR
        have e5 : wrap64 (-(m : Int)) = -m := by unfold wrap64; omega
        have ht := top_eq hw
        generalize rot x (m % 32) = r at *
        have HS := Lib.hid hS
        clear hS hup pm m0 hr hw
        go_enter Try.func22, Try.ntmps22
        go_wp2_with fail
        refine (HR _).out.mono ?_
        rintro e w1 ⟨rfl, rfl⟩
        go_wp2_with fail
        exact bodyPost_ret (v := .tuple #[u r, .bool (top r)]) (by simp [results, Try.results22, go_sem, ht]) rfl ⟨by rw [HS.out], Below.refl _ _⟩
      · have HS : Hid (sh k x m c = (x, c)) := Lib.hid (by simp [sh, k4, m0, k0, k1, k2, k3])
        clear hup pm m0
        go_enter Try.func22, Try.ntmps22
        go_wp2_with fail
        exact bodyPost_ret (v := .tuple #[u x, .bool c]) (by simp [results, Try.results22, go_sem]) rfl ⟨by rw [HS.out], Below.refl _ _⟩

theorem sh_w {k x : Int} {m : Nat} {c : Bool} (hx : W32 x) : W32 (sh k x m c).1 := by
  obtain ⟨x0, x1⟩ := hx
  unfold sh
  have h1 : W32 (x / 2 ^ m) := ⟨Int.ediv_nonneg x0 (by have := pow_pos' m; omega), by have := Int.ediv_le_self (2 ^ m) x0; omega⟩
  have h2 := rot_w (x := x) ⟨x0, x1⟩ (r := m % 32) (by omega)
  (repeat' split) <;> first | exact h1 | exact h2 | exact ⟨x0, x1⟩ | exact ⟨by omega, by omega⟩ | skip
theorem sh_nil (k x : Int) (c : Bool) (h : ¬ k = 4) : sh k x 0 c = (x, c) := by simp [sh, h]
theorem rot_one {x : Int} (hx : W32 x) {m : Nat} (hm : m < 32) : rot (rot x m) 1 = rot x ((m + 1) % 32) := by
  obtain ⟨x0, x1⟩ := hx
  unfold rot
  rcases (show m = 0 ∨ m = 1 ∨ m = 2 ∨ m = 3 ∨ m = 4 ∨ m = 5 ∨ m = 6 ∨ m = 7 ∨ m = 8 ∨ m = 9 ∨ m = 10 ∨ m = 11 ∨ m = 12 ∨ m = 13 ∨ m = 14 ∨ m = 15 ∨ m = 16 ∨ m = 17 ∨ m = 18 ∨ m = 19 ∨ m = 20 ∨ m = 21 ∨ m = 22 ∨ m = 23 ∨ m = 24 ∨ m = 25 ∨ m = 26 ∨ m = 27 ∨ m = 28 ∨ m = 29 ∨ m = 30 ∨ m = 31 by omega) with rfl | rfl | rfl | rfl | rfl | rfl | rfl | rfl | rfl | rfl | rfl | rfl | rfl | rfl | rfl | rfl | rfl | rfl | rfl | rfl | rfl | rfl | rfl | rfl | rfl | rfl | rfl | rfl | rfl | rfl | rfl | rfl <;>
    simp only [Nat.reduceAdd, Nat.reduceMod, Nat.reduceSub, Int.reducePow] <;> omega
theorem sh_step {k x : Int} (hk : k = 0 ∨ k = 1 ∨ k = 2 ∨ k = 3) (hx : W32 x) (j : Nat) (c : Bool) : sh k (sh k x j c).1 1 (sh k x j c).2 = sh k x (j + 1) c := by
  by_cases hj : j = 0
  · subst hj
    rw [sh_nil k x c (by omega)]
  · have hup := pow_up j hj
    have up1 := pow_up (j + 1) (by omega)
    rw [show j + 1 - 1 = j by omega] at up1
    have pm := pow_pos' j
    rcases hk with rfl | rfl | rfl | rfl
    · rw [sh_lsl c hj, sh_lsl _ (by decide), sh_lsl c (by omega), up1, show j + 1 - 1 = j by omega]
      have : x * (2 * 2 ^ j) = 2 * (x * 2 ^ j) := by rw [← Int.mul_assoc, Int.mul_comm x 2, Int.mul_assoc]
      rw [this]
      generalize x * 2 ^ j = z
      refine Prod.ext (by show z % 4294967296 * 2 ^ 1 % 4294967296 = _; simp only [Int.reducePow]; omega) ?_
      show (z % 4294967296 * 2 ^ (1 - 1) / 2147483648 % 2 == 1) = (z / 2147483648 % 2 == 1)
      have : z % 4294967296 * 2 ^ (1 - 1) / 2147483648 % 2 = z / 2147483648 % 2 := by simp only [Nat.reduceSub, Int.reducePow]; omega
      rw [this]
    · rw [sh_lsr c hj, sh_lsr _ (by decide), sh_lsr c (by omega), up1, show j + 1 - 1 = j by omega, Int.mul_comm 2, ← Int.ediv_ediv_of_nonneg (by omega)]
      refine Prod.ext (by simp) (by simp)
    · have hs : sgn (sgn x / 2 ^ j % 4294967296) = sgn x / 2 ^ j := by
        have a : -2147483648 ≤ sgn x ∧ sgn x < 2147483648 := by obtain ⟨x0, x1⟩ := hx; unfold sgn; split <;> omega
        have b0 : -2147483648 ≤ sgn x / 2 ^ j := (Int.le_ediv_iff_mul_le pm).2 (by
          have := Int.mul_le_mul_of_nonneg_left (show (1 : Int) ≤ 2 ^ j by omega) (show (0 : Int) ≤ 2147483648 by decide); omega)
        have b1 : sgn x / 2 ^ j < 2147483648 := Int.ediv_lt_of_lt_mul pm (by
          have := Int.mul_le_mul_of_nonneg_left (show (1 : Int) ≤ 2 ^ j by omega) (show (0 : Int) ≤ 2147483648 by decide); omega)
        generalize sgn x / 2 ^ j = z at *
        unfold sgn; split <;> omega
      rw [sh_asr c hj, sh_asr _ (by decide), sh_asr c (by omega), up1, show j + 1 - 1 = j by omega, Int.mul_comm 2, ← Int.ediv_ediv_of_nonneg (by omega), hs]
      refine Prod.ext (by simp) (by simp)
    · rw [sh_ror c hj, sh_ror _ (by decide), sh_ror c (by omega)]
      show (rot (rot x (j % 32)) (1 % 32), top (rot (rot x (j % 32)) (1 % 32))) = _
      rw [show 1 % 32 = 1 from rfl, rot_one hx (Nat.mod_lt _ (by decide)), show (j % 32 + 1) % 32 = (j + 1) % 32 by omega]

end Go.Proofs.Yteakgeplefjncaa
