/- The walk of AluLongs; of the reference's products. Printed by mklongs.py. -/
import Derived.Test.YteakgeplefjncaaLive
set_option linter.unusedVariables false
set_option linter.unusedSimpArgs false
namespace Go.Proofs.Yteakgeplefjncaa
open Go.RowKit

theorem mod_next (b : Int) (j : Nat) : b % 2 ^ (j + 1) = b % 2 ^ j + b / 2 ^ j % 2 * 2 ^ j := by
  have h1 := Int.emod_add_mul_ediv b (2 ^ j)
  have h2 := Int.emod_add_mul_ediv b (2 ^ (j + 1))
  have p := pow_pos' j
  have e : (2 : Int) ^ (j + 1) = 2 ^ j * 2 := Int.pow_succ _ _
  have e2 : b / 2 ^ (j + 1) = b / 2 ^ j / 2 := by rw [e, Int.ediv_ediv_of_nonneg (by omega)]
  rw [e2, e] at h2
  rw [e]
  obtain ⟨q, hq⟩ : ∃ q, b / 2 ^ j = q := ⟨_, rfl⟩
  obtain ⟨k, hk⟩ : ∃ k, (2 : Int) ^ j = k := ⟨_, rfl⟩
  rw [hq, hk] at h1 h2
  rw [hk] at p
  rw [hq, hk]
  have h3 : q = 2 * (q / 2) + q % 2 := by omega
  have h4 : k * q = k * 2 * (q / 2) + q % 2 * k := by
    have : k * q = k * (2 * (q / 2) + q % 2) := by rw [← h3]
    rw [this, Int.mul_add, ← Int.mul_assoc, Int.mul_comm k (q % 2)]
  omega

set_option maxRecDepth 100000 in
set_option maxHeartbeats 2000000 in
theorem product_calls (w : World) (a b : Int) (ha : W32 a) (hb : W32 b) :
    Calls Try.prog 50 #[u a, u b] w fun e w' => e = .returned (.int .u64 (a * b)) ∧ w' = w := by
  have HBit := fun w (j : Nat) hj => Lib.hid (bit_calls w b j hb hj)
  have hend : b % 2 ^ 32 = b := by obtain ⟨b0, b1⟩ := hb; simp only [Int.reducePow]; omega
  have hbound : ∀ j : Nat, 0 ≤ a * (b % 2 ^ j) ∧ a * (b % 2 ^ j) ≤ a * b := fun j => by
    have p := pow_pos' j
    have h0 := Int.emod_nonneg b (show (2 : Int) ^ j ≠ 0 by omega)
    have h1 : b % 2 ^ j ≤ b := by
      have := Int.emod_add_mul_ediv b (2 ^ j)
      have := Int.mul_nonneg (Int.le_of_lt p) (Int.ediv_nonneg hb.1 (Int.le_of_lt p))
      omega
    exact ⟨Int.mul_nonneg ha.1 h0, Int.mul_le_mul_of_nonneg_left h1 ha.1⟩
  have hab := (mul_bound ha hb).2
  have hpow : ∀ j : Nat, j < 32 → 0 ≤ a * 2 ^ j ∧ a * 2 ^ j < 18446744073709551616 := fun j hj => by
    have p := pow_pos' j
    have h2 : (2 : Int) ^ j ≤ 4294967295 := by
      have := pow_out 32 j (by omega)
      have q := pow_pos' (32 - j - 1)
      have e : (2 : Int) ^ (32 - j) = 2 * 2 ^ (32 - j - 1) := pow_up _ (by omega)
      have p32 : (2 : Int) ^ 32 = 4294967296 := rfl
      rw [p32, e] at this
      have h3 : (2 : Int) ^ j * 2 ≤ 2 ^ j * (2 * 2 ^ (32 - j - 1)) := Int.mul_le_mul_of_nonneg_left (by omega) (by omega)
      omega
    have := mul_bound ha ⟨Int.le_of_lt p, by omega⟩
    exact this
  have ea : IntKind.u64.wrap a = a := by obtain ⟨x0, x1⟩ := ha; rw [wrap_u64]; omega
  have hA : Hid (a * b = a * (b % 2 ^ 32)) := Lib.hid (by rw [hend])
  clear hend
  go_enter Try.func50, Try.ntmps50
  go_wp2_with fail
  go_loopw [5, 6] (fun s i wr => ∃ j : Nat, j ≤ 32 ∧ i = .int .i64 j ∧ Hid (s = .int .u64 (a * (b % 2 ^ j))) ∧ wr = w) (fun _ i _ => 32 - (intOf i).toNat)
  case atStart => exact ⟨0, by omega, rfl, Lib.hid (by simp [Int.emod_one]), rfl⟩
  case round =>
    obtain ⟨j, hj, rfl, hs, rfl⟩ := hrel
    have hs' := hs.out
    subst hs'
    by_cases hj2 : j < 32
    · have HBit := fun w => HBit w j hj2
      have q : (j : Int) < 32 := by omega
      have hn := mod_next b j
      have hb1 := hbound j
      have hb2 := hbound (j + 1)
      have hp := hpow j hj2
      have ej : IntKind.u64.wrap (j : Int) = j := by rw [wrap_u64]; omega
      have em : min j 64 = j := by omega
      have ep : IntKind.u64.wrap (a * 2 ^ j) = a * 2 ^ j := by rw [wrap_u64]; omega
      have hbit : b / 2 ^ j % 2 = 0 ∨ b / 2 ^ j % 2 = 1 := by omega
      rcases hbit with h0 | h1
      · have hnx : Hid (a * (b % 2 ^ (j + 1)) = a * (b % 2 ^ j)) := Lib.hid (by rw [hn, h0]; simp)
        rw [show (b / 2 ^ j % 2 == 1) = false by rw [h0]; rfl] at HBit
        clear hn hb1 hb2 hp h0
        go_wp2_with fail
        refine (HBit _).out.mono ?_
        rintro e w1 ⟨rfl, rfl⟩
        go_wp2_with fail
        go_roundw
        case rel => exact ⟨j + 1, by omega, by go_num, Lib.hid (by rw [hnx.out]), trivial⟩
        case measure => simp [intOf]; omega
      · have hnx' : a * (b % 2 ^ (j + 1)) = a * (b % 2 ^ j) + a * 2 ^ j := by rw [hn, h1, Int.one_mul, Int.mul_add]
        have hnx := Lib.hid hnx'
        rw [hnx'] at hb2
        have es : IntKind.u64.wrap (a * (b % 2 ^ j) + a * 2 ^ j) = a * (b % 2 ^ j) + a * 2 ^ j := by rw [wrap_u64]; omega
        rw [show (b / 2 ^ j % 2 == 1) = true by rw [h1]; rfl] at HBit
        clear hn hb1 hb2 hp h1 hnx'
        generalize a * (b % 2 ^ j) = s at *
        go_wp2_with fail
        refine (HBit _).out.mono ?_
        rintro e w1 ⟨rfl, rfl⟩
        go_wp2_with fail
        go_roundw
        case rel => exact ⟨j + 1, by omega, by go_num, Lib.hid (by rw [hnx.out]), trivial⟩
        case measure => simp [intOf]; omega
    · obtain rfl : j = 32 := by omega
      go_wp2_with fail
      exact bodyPost_ret (v := .int .u64 (a * (b % 2 ^ 32))) (by simp [results, Try.results50, go_sem]) rfl ⟨by rw [← hA.out], rfl⟩


set_option maxRecDepth 100000 in
set_option maxHeartbeats 2000000 in
theorem ref_long_calls (w : World) (op a b h l : Int) (ha : W32 a) (hb : W32 b) (hh : W32 h) (hl : W32 l) :
    Calls Try.prog 29 #[.int .i64 op, u a, u b, u h, u l] w fun e w' => e = .returned (L3 (long op a b h l)) ∧ w' = w := by
  have HP := fun w => product_calls w a b ha hb
  have HA := fun w => bit_calls w a 31 ha (by decide)
  have HB := fun w => bit_calls w b 31 hb (by decide)
  simp only [Int.reducePow] at HA HB
  obtain ⟨p0, p1⟩ := mul_bound ha hb
  obtain ⟨a0, a1⟩ := ha
  obtain ⟨b0, b1⟩ := hb
  obtain ⟨h0, h1⟩ := hh
  obtain ⟨l0, l1⟩ := hl
  have hS : sgn a * sgn b = a * b - (if 2147483648 ≤ a then b * 4294967296 else 0) - (if 2147483648 ≤ b then a * 4294967296 else 0) + (if 2147483648 ≤ a then (if 2147483648 ≤ b then 18446744073709551616 else 0) else 0) := by
    unfold sgn
    split <;> split <;> first | (rw [Int.sub_mul, Int.mul_sub, Int.mul_sub]; omega) | (rw [Int.sub_mul]; omega) | (rw [Int.mul_sub]; omega) | omega
  obtain ⟨S, hS'⟩ : ∃ S, sgn a * sgn b = S := ⟨_, rfl⟩
  obtain ⟨P, hP'⟩ : ∃ P, a * b = P := ⟨_, rfl⟩
  have hlong : long op a b h l = if op = 19 then (0, P % 4294967296, true) else if op = 20 then (0, (P + l) % 4294967296, true) else if op = 21 then two P
      else if op = 22 then two ((P + (h * 4294967296 + l)) % 18446744073709551616) else if op = 23 then two (S % 18446744073709551616) else if op = 24 then two ((S + (h * 4294967296 + l)) % 18446744073709551616) else (0, 0, false) := by rw [← hS', ← hP']; rfl
  rw [hS', hP'] at hS
  rw [hP'] at p0 p1 HP
  have HP := fun w => Lib.hid (HP w)
  have HLg := Lib.hid hlong
  clear hS' hP' hlong
  have ea : IntKind.u64.wrap a = a := by rw [wrap_u64]; omega
  have eb : IntKind.u64.wrap b = b := by rw [wrap_u64]; omega
  have eh : IntKind.u64.wrap h = h := by rw [wrap_u64]; omega
  have el : IntKind.u64.wrap l = l := by rw [wrap_u64]; omega
  have ea2 : IntKind.u64.wrap (a * 4294967296) = a * 4294967296 := by rw [wrap_u64]; omega
  have eb2 : IntKind.u64.wrap (b * 4294967296) = b * 4294967296 := by rw [wrap_u64]; omega
  have eh2 : IntKind.u64.wrap (h * 4294967296) = h * 4294967296 := by rw [wrap_u64]; omega
  rw [HLg.out]
  rcases (show op = 19 ∨ op = 20 ∨ op = 21 ∨ op = 22 ∨ op = 23 ∨ op = 24 ∨ (¬ op = 19 ∧ ¬ op = 20 ∧ ¬ op = 21 ∧ ¬ op = 22 ∧ ¬ op = 23 ∧ ¬ op = 24) by omega) with rfl | rfl | rfl | rfl | rfl | rfl | ⟨k0, k1, k2, k3, k4, k5⟩
  · rw [if_pos rfl]
    clear hS p0 p1 HA HB
    go_enter Try.func29, Try.ntmps29
    go_wp2_with fail
    refine (HP _).out.mono ?_
    rintro e w1 ⟨rfl, rfl⟩
    go_wp2_with fail
    exact bodyPost_ret (v := L3 (0, P % 4294967296, true)) (by simp [results, Try.results29, go_sem, L3]) rfl ⟨rfl, rfl⟩
  · rw [if_neg (by decide), if_pos rfl]
    have e1 : (P % 4294967296 + l) % 4294967296 = (P + l) % 4294967296 := by omega
    clear hS p0 p1 HA HB
    go_enter Try.func29, Try.ntmps29
    go_wp2_with fail
    refine (HP _).out.mono ?_
    rintro e w1 ⟨rfl, rfl⟩
    go_wp2_with fail
    exact bodyPost_ret (v := L3 (0, (P + l) % 4294967296, true)) (by simp [results, Try.results29, go_sem, L3, e1]) rfl ⟨rfl, rfl⟩
  · rw [if_neg (by decide), if_neg (by decide), if_pos rfl]
    have e1 : P / 4294967296 % 4294967296 = P / 4294967296 := by omega
    clear hS p0 p1 HA HB
    go_enter Try.func29, Try.ntmps29
    go_wp2_with fail
    refine (HP _).out.mono ?_
    rintro e w1 ⟨rfl, rfl⟩
    go_wp2_with fail
    exact bodyPost_ret (v := L3 (two P)) (by simp [results, Try.results29, go_sem, L3, two, e1]) rfl ⟨rfl, rfl⟩
  · rw [if_neg (by decide), if_neg (by decide), if_neg (by decide), if_pos rfl]
    obtain ⟨A, hA⟩ : ∃ A, (P + h * 4294967296) % 18446744073709551616 = A := ⟨_, rfl⟩
    obtain ⟨Q, hQ⟩ : ∃ Q, (P + (h * 4294967296 + l)) % 18446744073709551616 = Q := ⟨_, rfl⟩
    have e1 : IntKind.u64.wrap (P + h * 4294967296) = A := by rw [wrap_u64]; exact hA
    have e2 : IntKind.u64.wrap (A + l) = Q := by rw [wrap_u64]; omega
    have e3 : Q / 4294967296 % 4294967296 = Q / 4294967296 := by omega
    rw [hQ]
    clear hS p0 p1 HA HB hA hQ
    go_enter Try.func29, Try.ntmps29
    go_wp2_with fail
    refine (HP _).out.mono ?_
    rintro e w1 ⟨rfl, rfl⟩
    go_wp2_with fail
    exact bodyPost_ret (v := L3 (two Q)) (by simp [results, Try.results29, go_sem, L3, two, e3]) rfl ⟨rfl, rfl⟩
  · rw [if_neg (by decide), if_neg (by decide), if_neg (by decide), if_neg (by decide), if_pos rfl]
    by_cases ka : 2147483648 ≤ a
    · by_cases kb : 2147483648 ≤ b
      · rw [show (a / 2147483648 % 2 == 1) = true by rw [Bool.eq_iff_iff]; simp; omega] at HA
        rw [show (b / 2147483648 % 2 == 1) = true by rw [Bool.eq_iff_iff]; simp; omega] at HB
        have HA := fun w => Lib.hid (HA w)
        have HB := fun w => Lib.hid (HB w)
        rw [if_pos ka, if_pos kb, if_pos ka, if_pos kb] at hS
        obtain ⟨A1, hA1⟩ : ∃ A, (P - b * 4294967296) % 18446744073709551616 = A := ⟨_, rfl⟩
        have f1 : IntKind.u64.wrap (P - b * 4294967296) = A1 := by rw [wrap_u64]; exact hA1
        obtain ⟨A2, hA2⟩ : ∃ A, (A1 - a * 4294967296) % 18446744073709551616 = A := ⟨_, rfl⟩
        have f2 : IntKind.u64.wrap (A1 - a * 4294967296) = A2 := by rw [wrap_u64]; exact hA2
        have hT : S % 18446744073709551616 = A2 := by omega
        have e3 : A2 / 4294967296 % 4294967296 = A2 / 4294967296 := by omega
        rw [hT]
        clear hS p0 p1 hT hA1 hA2
        go_enter Try.func29, Try.ntmps29
        go_wp2_with fail
        refine (HP _).out.mono ?_
        rintro e w1 ⟨rfl, rfl⟩
        go_wp2_with fail
        refine (HA _).out.mono ?_
        rintro e w1 ⟨rfl, rfl⟩
        go_wp2_with fail
        refine (HB _).out.mono ?_
        rintro e w1 ⟨rfl, rfl⟩
        go_wp2_with fail
        exact bodyPost_ret (v := L3 (two A2)) (by simp [results, Try.results29, go_sem, L3, two, e3]) rfl ⟨rfl, rfl⟩
      · rw [show (a / 2147483648 % 2 == 1) = true by rw [Bool.eq_iff_iff]; simp; omega] at HA
        rw [show (b / 2147483648 % 2 == 1) = false by rw [Bool.eq_iff_iff]; simp; omega] at HB
        have HA := fun w => Lib.hid (HA w)
        have HB := fun w => Lib.hid (HB w)
        rw [if_pos ka, if_neg kb, if_pos ka, if_neg kb] at hS
        obtain ⟨A1, hA1⟩ : ∃ A, (P - b * 4294967296) % 18446744073709551616 = A := ⟨_, rfl⟩
        have f1 : IntKind.u64.wrap (P - b * 4294967296) = A1 := by rw [wrap_u64]; exact hA1
        have hT : S % 18446744073709551616 = A1 := by omega
        have e3 : A1 / 4294967296 % 4294967296 = A1 / 4294967296 := by omega
        rw [hT]
        clear hS p0 p1 hT hA1
        go_enter Try.func29, Try.ntmps29
        go_wp2_with fail
        refine (HP _).out.mono ?_
        rintro e w1 ⟨rfl, rfl⟩
        go_wp2_with fail
        refine (HA _).out.mono ?_
        rintro e w1 ⟨rfl, rfl⟩
        go_wp2_with fail
        refine (HB _).out.mono ?_
        rintro e w1 ⟨rfl, rfl⟩
        go_wp2_with fail
        exact bodyPost_ret (v := L3 (two A1)) (by simp [results, Try.results29, go_sem, L3, two, e3]) rfl ⟨rfl, rfl⟩
    · by_cases kb : 2147483648 ≤ b
      · rw [show (a / 2147483648 % 2 == 1) = false by rw [Bool.eq_iff_iff]; simp; omega] at HA
        rw [show (b / 2147483648 % 2 == 1) = true by rw [Bool.eq_iff_iff]; simp; omega] at HB
        have HA := fun w => Lib.hid (HA w)
        have HB := fun w => Lib.hid (HB w)
        rw [if_neg ka, if_pos kb, if_neg ka] at hS
        obtain ⟨A2, hA2⟩ : ∃ A, (P - a * 4294967296) % 18446744073709551616 = A := ⟨_, rfl⟩
        have f2 : IntKind.u64.wrap (P - a * 4294967296) = A2 := by rw [wrap_u64]; exact hA2
        have hT : S % 18446744073709551616 = A2 := by omega
        have e3 : A2 / 4294967296 % 4294967296 = A2 / 4294967296 := by omega
        rw [hT]
        clear hS p0 p1 hT hA2
        go_enter Try.func29, Try.ntmps29
        go_wp2_with fail
        refine (HP _).out.mono ?_
        rintro e w1 ⟨rfl, rfl⟩
        go_wp2_with fail
        refine (HA _).out.mono ?_
        rintro e w1 ⟨rfl, rfl⟩
        go_wp2_with fail
        refine (HB _).out.mono ?_
        rintro e w1 ⟨rfl, rfl⟩
        go_wp2_with fail
        exact bodyPost_ret (v := L3 (two A2)) (by simp [results, Try.results29, go_sem, L3, two, e3]) rfl ⟨rfl, rfl⟩
      · rw [show (a / 2147483648 % 2 == 1) = false by rw [Bool.eq_iff_iff]; simp; omega] at HA
        rw [show (b / 2147483648 % 2 == 1) = false by rw [Bool.eq_iff_iff]; simp; omega] at HB
        have HA := fun w => Lib.hid (HA w)
        have HB := fun w => Lib.hid (HB w)
        rw [if_neg ka, if_neg kb, if_neg ka] at hS
        have hT : S % 18446744073709551616 = P := by omega
        have e3 : P / 4294967296 % 4294967296 = P / 4294967296 := by omega
        rw [hT]
        clear hS p0 p1 hT
        go_enter Try.func29, Try.ntmps29
        go_wp2_with fail
        refine (HP _).out.mono ?_
        rintro e w1 ⟨rfl, rfl⟩
        go_wp2_with fail
        refine (HA _).out.mono ?_
        rintro e w1 ⟨rfl, rfl⟩
        go_wp2_with fail
        refine (HB _).out.mono ?_
        rintro e w1 ⟨rfl, rfl⟩
        go_wp2_with fail
        exact bodyPost_ret (v := L3 (two P)) (by simp [results, Try.results29, go_sem, L3, two, e3]) rfl ⟨rfl, rfl⟩
  · rw [if_neg (by decide), if_neg (by decide), if_neg (by decide), if_neg (by decide), if_neg (by decide), if_pos rfl]
    by_cases ka : 2147483648 ≤ a
    · by_cases kb : 2147483648 ≤ b
      · rw [show (a / 2147483648 % 2 == 1) = true by rw [Bool.eq_iff_iff]; simp; omega] at HA
        rw [show (b / 2147483648 % 2 == 1) = true by rw [Bool.eq_iff_iff]; simp; omega] at HB
        have HA := fun w => Lib.hid (HA w)
        have HB := fun w => Lib.hid (HB w)
        rw [if_pos ka, if_pos kb, if_pos ka, if_pos kb] at hS
        obtain ⟨A1, hA1⟩ : ∃ A, (P - b * 4294967296) % 18446744073709551616 = A := ⟨_, rfl⟩
        have f1 : IntKind.u64.wrap (P - b * 4294967296) = A1 := by rw [wrap_u64]; exact hA1
        obtain ⟨A2, hA2⟩ : ∃ A, (A1 - a * 4294967296) % 18446744073709551616 = A := ⟨_, rfl⟩
        have f2 : IntKind.u64.wrap (A1 - a * 4294967296) = A2 := by rw [wrap_u64]; exact hA2
        obtain ⟨A3, hA3⟩ : ∃ A, (A2 + h * 4294967296) % 18446744073709551616 = A := ⟨_, rfl⟩
        have f3 : IntKind.u64.wrap (A2 + h * 4294967296) = A3 := by rw [wrap_u64]; exact hA3
        obtain ⟨Q, hQ⟩ : ∃ Q, (A3 + l) % 18446744073709551616 = Q := ⟨_, rfl⟩
        have f4 : IntKind.u64.wrap (A3 + l) = Q := by rw [wrap_u64]; exact hQ
        have hT : (S + (h * 4294967296 + l)) % 18446744073709551616 = Q := by omega
        have e3 : Q / 4294967296 % 4294967296 = Q / 4294967296 := by omega
        rw [hT]
        clear hS p0 p1 hT hA1 hA2 hA3 hQ
        go_enter Try.func29, Try.ntmps29
        go_wp2_with fail
        refine (HP _).out.mono ?_
        rintro e w1 ⟨rfl, rfl⟩
        go_wp2_with fail
        refine (HA _).out.mono ?_
        rintro e w1 ⟨rfl, rfl⟩
        go_wp2_with fail
        refine (HB _).out.mono ?_
        rintro e w1 ⟨rfl, rfl⟩
        go_wp2_with fail
        exact bodyPost_ret (v := L3 (two Q)) (by simp [results, Try.results29, go_sem, L3, two, e3]) rfl ⟨rfl, rfl⟩
      · rw [show (a / 2147483648 % 2 == 1) = true by rw [Bool.eq_iff_iff]; simp; omega] at HA
        rw [show (b / 2147483648 % 2 == 1) = false by rw [Bool.eq_iff_iff]; simp; omega] at HB
        have HA := fun w => Lib.hid (HA w)
        have HB := fun w => Lib.hid (HB w)
        rw [if_pos ka, if_neg kb, if_pos ka, if_neg kb] at hS
        obtain ⟨A1, hA1⟩ : ∃ A, (P - b * 4294967296) % 18446744073709551616 = A := ⟨_, rfl⟩
        have f1 : IntKind.u64.wrap (P - b * 4294967296) = A1 := by rw [wrap_u64]; exact hA1
        obtain ⟨A3, hA3⟩ : ∃ A, (A1 + h * 4294967296) % 18446744073709551616 = A := ⟨_, rfl⟩
        have f3 : IntKind.u64.wrap (A1 + h * 4294967296) = A3 := by rw [wrap_u64]; exact hA3
        obtain ⟨Q, hQ⟩ : ∃ Q, (A3 + l) % 18446744073709551616 = Q := ⟨_, rfl⟩
        have f4 : IntKind.u64.wrap (A3 + l) = Q := by rw [wrap_u64]; exact hQ
        have hT : (S + (h * 4294967296 + l)) % 18446744073709551616 = Q := by omega
        have e3 : Q / 4294967296 % 4294967296 = Q / 4294967296 := by omega
        rw [hT]
        clear hS p0 p1 hT hA1 hA3 hQ
        go_enter Try.func29, Try.ntmps29
        go_wp2_with fail
        refine (HP _).out.mono ?_
        rintro e w1 ⟨rfl, rfl⟩
        go_wp2_with fail
        refine (HA _).out.mono ?_
        rintro e w1 ⟨rfl, rfl⟩
        go_wp2_with fail
        refine (HB _).out.mono ?_
        rintro e w1 ⟨rfl, rfl⟩
        go_wp2_with fail
        exact bodyPost_ret (v := L3 (two Q)) (by simp [results, Try.results29, go_sem, L3, two, e3]) rfl ⟨rfl, rfl⟩
    · by_cases kb : 2147483648 ≤ b
      · rw [show (a / 2147483648 % 2 == 1) = false by rw [Bool.eq_iff_iff]; simp; omega] at HA
        rw [show (b / 2147483648 % 2 == 1) = true by rw [Bool.eq_iff_iff]; simp; omega] at HB
        have HA := fun w => Lib.hid (HA w)
        have HB := fun w => Lib.hid (HB w)
        rw [if_neg ka, if_pos kb, if_neg ka] at hS
        obtain ⟨A2, hA2⟩ : ∃ A, (P - a * 4294967296) % 18446744073709551616 = A := ⟨_, rfl⟩
        have f2 : IntKind.u64.wrap (P - a * 4294967296) = A2 := by rw [wrap_u64]; exact hA2
        obtain ⟨A3, hA3⟩ : ∃ A, (A2 + h * 4294967296) % 18446744073709551616 = A := ⟨_, rfl⟩
        have f3 : IntKind.u64.wrap (A2 + h * 4294967296) = A3 := by rw [wrap_u64]; exact hA3
        obtain ⟨Q, hQ⟩ : ∃ Q, (A3 + l) % 18446744073709551616 = Q := ⟨_, rfl⟩
        have f4 : IntKind.u64.wrap (A3 + l) = Q := by rw [wrap_u64]; exact hQ
        have hT : (S + (h * 4294967296 + l)) % 18446744073709551616 = Q := by omega
        have e3 : Q / 4294967296 % 4294967296 = Q / 4294967296 := by omega
        rw [hT]
        clear hS p0 p1 hT hA2 hA3 hQ
        go_enter Try.func29, Try.ntmps29
        go_wp2_with fail
        refine (HP _).out.mono ?_
        rintro e w1 ⟨rfl, rfl⟩
        go_wp2_with fail
        refine (HA _).out.mono ?_
        rintro e w1 ⟨rfl, rfl⟩
        go_wp2_with fail
        refine (HB _).out.mono ?_
        rintro e w1 ⟨rfl, rfl⟩
        go_wp2_with fail
        exact bodyPost_ret (v := L3 (two Q)) (by simp [results, Try.results29, go_sem, L3, two, e3]) rfl ⟨rfl, rfl⟩
      · rw [show (a / 2147483648 % 2 == 1) = false by rw [Bool.eq_iff_iff]; simp; omega] at HA
        rw [show (b / 2147483648 % 2 == 1) = false by rw [Bool.eq_iff_iff]; simp; omega] at HB
        have HA := fun w => Lib.hid (HA w)
        have HB := fun w => Lib.hid (HB w)
        rw [if_neg ka, if_neg kb, if_neg ka] at hS
        obtain ⟨A3, hA3⟩ : ∃ A, (P + h * 4294967296) % 18446744073709551616 = A := ⟨_, rfl⟩
        have f3 : IntKind.u64.wrap (P + h * 4294967296) = A3 := by rw [wrap_u64]; exact hA3
        obtain ⟨Q, hQ⟩ : ∃ Q, (A3 + l) % 18446744073709551616 = Q := ⟨_, rfl⟩
        have f4 : IntKind.u64.wrap (A3 + l) = Q := by rw [wrap_u64]; exact hQ
        have hT : (S + (h * 4294967296 + l)) % 18446744073709551616 = Q := by omega
        have e3 : Q / 4294967296 % 4294967296 = Q / 4294967296 := by omega
        rw [hT]
        clear hS p0 p1 hT hA3 hQ
        go_enter Try.func29, Try.ntmps29
        go_wp2_with fail
        refine (HP _).out.mono ?_
        rintro e w1 ⟨rfl, rfl⟩
        go_wp2_with fail
        refine (HA _).out.mono ?_
        rintro e w1 ⟨rfl, rfl⟩
        go_wp2_with fail
        refine (HB _).out.mono ?_
        rintro e w1 ⟨rfl, rfl⟩
        go_wp2_with fail
        exact bodyPost_ret (v := L3 (two Q)) (by simp [results, Try.results29, go_sem, L3, two, e3]) rfl ⟨rfl, rfl⟩
  · rw [if_neg k0, if_neg k1, if_neg k2, if_neg k3, if_neg k4, if_neg k5]
    have m0 : (op == 19) = false := by simp [k0]
    have m1 : (op == 20) = false := by simp [k1]
    have m2 : (op == 21) = false := by simp [k2]
    have m3 : (op == 22) = false := by simp [k3]
    have m4 : (op == 23) = false := by simp [k4]
    have m5 : (op == 24) = false := by simp [k5]
    clear hS p0 p1 HA HB
    go_enter Try.func29, Try.ntmps29
    go_wp2_with fail
    refine (HP _).out.mono ?_
    rintro e w1 ⟨rfl, rfl⟩
    go_wp2_with fail
    exact bodyPost_ret (v := L3 (0, 0, false)) (by simp [results, Try.results29, go_sem, L3]) rfl ⟨rfl, rfl⟩

set_option maxRecDepth 100000 in
set_option maxHeartbeats 2000000 in
theorem longs_core (w : World) (op a b h l : Int) (ha : W32 a) (hb : W32 b) (hh : W32 h) (hl : W32 l) :
    Calls Try.prog 7 #[.int .i64 op, u a, u b, u h, u l] w fun e w' => e = .returned (.bool true) ∧ Below w.heap.size w w' := by
  have HL := fun w => Lib.hid (live_calls w)
  have HA := fun w o => long_calls w o a b h l ha hb hh hl
  have HR := fun w o => ref_long_calls w o a b h l ha hb hh hl
  obtain ⟨g, hg⟩ : ∃ g : Int → Int × Int × Bool, ∀ o, long o a b h l = g o := ⟨_, fun _ => rfl⟩
  simp only [hg, L3] at HA HR
  have HA := fun w o => Lib.hid (HA w o)
  have HR := fun w o => Lib.hid (HR w o)
  clear hg ha hb hh hl
  go_enter Try.func7, Try.ntmps7
  go_wp2_with fail
  refine (HL _).out.mono ?_
  rintro e w1 ⟨rfl, hb1⟩
  have HB1 := Lib.hid hb1
  clear hb1
  go_wp2_with fail
  go_loopw [11] (fun i wr => ∃ k : Int, (17 ≤ k ∧ k ≤ 27) ∧ i = .int .i64 k ∧ wr = w1) (fun i _ => (27 - intOf i).toNat)
  case atStart => exact ⟨17, by omega, rfl, rfl⟩
  case round =>
    obtain ⟨k, hk, rfl, rfl⟩ := hrel
    by_cases hk6 : k < 27
    · by_cases k0 : k = 17
      · subst k0
        go_wp2_with fail
        refine (HA _ _).out.mono ?_
        rintro e w2 ⟨rfl, rfl⟩
        go_wp2_with fail
        refine (HR _ _).out.mono ?_
        rintro e w2 ⟨rfl, rfl⟩
        go_wp2_with fail
        go_roundw
        case rel => exact ⟨18, by omega, by go_num, trivial⟩
        case measure => simp [intOf]
      · go_wp2_with fail
        refine (HA _ _).out.mono ?_
        rintro e w2 ⟨rfl, rfl⟩
        go_wp2_with fail
        refine (HR _ _).out.mono ?_
        rintro e w2 ⟨rfl, rfl⟩
        go_wp2_with fail
        go_roundw
        case rel => exact ⟨k + 1, by omega, by go_num, trivial⟩
        case measure => simp [intOf]; omega
    · go_wp2_with fail
      go_ret
      exact ⟨rfl, HB1.out⟩
end Go.Proofs.Yteakgeplefjncaa
