/- The walks of the reference's shift: by one bit, and one bit after the other. -/
import Derived.Test.YteakgeplefjncaaShift
set_option linter.unusedVariables false
set_option linter.unusedSimpArgs false
namespace Go.Proofs.Yteakgeplefjncaa
open Go.RowKit

theorem sgn_asr {x : Int} (hx : W32 x) : bits .or .u32 (x / 2) (bits .and .u32 x 2147483648) = sgn x / 2 % 4294967296 := by
  obtain ⟨x0, x1⟩ := hx
  obtain ⟨a, rfl⟩ := Int.eq_ofNat_of_zero_le x0
  have ha : a < 2 ^ 32 := by omega
  have e : bits .and .u32 (a : Int) 2147483648 = if 2147483648 ≤ a then 2147483648 else 0 := by
    have := and_nat a 2147483648 ha (by decide)
    rw [show ((2147483648 : Nat) : Int) = 2147483648 from rfl] at this
    rw [this]
    have h1 : (a &&& 2147483648) % 2 ^ 31 = 0 := by rw [Nat.and_mod_two_pow]; simp
    have h2 : (a &&& 2147483648) / 2 ^ 31 = a / 2 ^ 31 := by
      rw [← Nat.shiftRight_eq_div_pow, Nat.shiftRight_and_distrib, Nat.shiftRight_eq_div_pow, Nat.shiftRight_eq_div_pow]
      rcases (show a / 2 ^ 31 = 0 ∨ a / 2 ^ 31 = 1 by omega) with e | e <;> rw [e] <;> rfl
    split <;> omega
  rw [e]
  unfold sgn
  split
  · rename_i h
    rw [if_pos (by omega), or_comm_u32 ⟨by omega, by omega⟩ ⟨by omega, by omega⟩, or_u32 31 (by decide) (by decide) (by decide) (by omega) (by omega) (by omega)]
    omega
  · rename_i h
    rw [if_neg (by omega), or_comm_u32 ⟨by omega, by omega⟩ ⟨by omega, by omega⟩, or_u32 32 (by decide) (by decide) (by decide) (by omega) (by omega) (by omega)]
    omega

set_option maxRecDepth 100000 in
theorem one_calls (w : World) (k x : Int) (c : Bool) (hx : W32 x) (hk : 0 ≤ k ∧ k ≤ 4) :
    Calls Try.prog 44 #[.int .i64 k, u x, .bool c] w fun e w' => e = .returned (.tuple #[u (sh k x 1 c).1, .bool (sh k x 1 c).2]) ∧ w' = w := by
  have B31 := fun w => Lib.hid (bit_calls w x 31 hx (by decide))
  have B0 := fun w => Lib.hid (bit_calls w x 0 hx (by decide))
  have HA := Lib.hid (sgn_asr hx)
  obtain ⟨x0, x1⟩ := hx
  have e1 : Int.tdiv x 2 = x / 2 := Int.tdiv_eq_ediv_of_nonneg x0
  have e2 : x / 2 % 4294967296 = x / 2 := by omega
  have e3 : (x / 2 + 2147483648) % 4294967296 = x / 2 + 2147483648 := by omega
  simp only [Int.reducePow, Int.ediv_one, Int.cast_ofNat_Int, Int.natCast_zero] at B31 B0
  rcases (show k = 0 ∨ k = 1 ∨ k = 2 ∨ k = 3 ∨ k = 4 by omega) with rfl | rfl | rfl | rfl | rfl
  · have HS : Hid (sh 0 x 1 c = (x * 2 % 4294967296, x / 2147483648 % 2 == 1)) := Lib.hid (by simp [sh])
    go_enter Try.func44, Try.ntmps44
    go_wp2_with fail
    refine (B31 _).out.mono ?_
    rintro e w1 ⟨rfl, rfl⟩
    go_wp2_with fail
    exact bodyPost_ret (v := .tuple #[u (x * 2 % 4294967296), .bool (x / 2147483648 % 2 == 1)]) (by simp [results, Try.results44, go_sem]) rfl ⟨by rw [HS.out], rfl⟩
  · have HS : Hid (sh 1 x 1 c = (x / 2, x % 2 == 1)) := Lib.hid (by simp [sh])
    go_enter Try.func44, Try.ntmps44
    go_wp2_with fail
    refine (B0 _).out.mono ?_
    rintro e w1 ⟨rfl, rfl⟩
    go_wp2_with fail
    exact bodyPost_ret (v := .tuple #[u (x / 2), .bool (x % 2 == 1)]) (by simp [results, Try.results44, go_sem, e1, e2]) rfl ⟨by rw [HS.out], rfl⟩
  · have HS : Hid (sh 2 x 1 c = (sgn x / 2 % 4294967296, x % 2 == 1)) := Lib.hid (by
      have : sgn x % 2 = x % 2 := by unfold sgn; split <;> omega
      simp [sh, this])
    rw [← HA.out] at HS
    go_enter Try.func44, Try.ntmps44
    go_wp2_with fail
    refine (B0 _).out.mono ?_
    rintro e w1 ⟨rfl, rfl⟩
    go_wp2_with fail
    exact bodyPost_ret (v := .tuple #[u (bits .or .u32 (x / 2) (bits .and .u32 x 2147483648)), .bool (x % 2 == 1)]) (by simp [results, Try.results44, go_sem, e1, e2]) rfl ⟨by rw [HS.out], rfl⟩
  · by_cases hb : x % 2 = 1
    · have HS : Hid (sh 3 x 1 c = (x / 2 + 2147483648, true)) := Lib.hid (by
        have : rot x 1 = x / 2 + 2147483648 := by unfold rot; simp only [Int.reducePow, Nat.reduceSub]; omega
        simp [sh, this, top]; omega)
      have hb' : (x % 2 == 1) = true := by simp [hb]
      rw [hb'] at B0
      go_enter Try.func44, Try.ntmps44
      go_wp2_with fail
      refine (B0 _).out.mono ?_
      rintro e w1 ⟨rfl, rfl⟩
      go_wp2_with fail
      exact bodyPost_ret (v := .tuple #[u (x / 2 + 2147483648), .bool true]) (by simp [results, Try.results44, go_sem, e1, e2, e3]) rfl ⟨by rw [HS.out], rfl⟩
    · have HS : Hid (sh 3 x 1 c = (x / 2, false)) := Lib.hid (by
        have : rot x 1 = x / 2 := by unfold rot; simp only [Int.reducePow, Nat.reduceSub]; omega
        simp [sh, this, top]; omega)
      have hb' : (x % 2 == 1) = false := by simp [hb]
      rw [hb'] at B0
      go_enter Try.func44, Try.ntmps44
      go_wp2_with fail
      refine (B0 _).out.mono ?_
      rintro e w1 ⟨rfl, rfl⟩
      go_wp2_with fail
      exact bodyPost_ret (v := .tuple #[u (x / 2), .bool false]) (by simp [results, Try.results44, go_sem, e1, e2]) rfl ⟨by rw [HS.out], rfl⟩
  · cases c with
    | true =>
      have HS : Hid (sh 4 x 1 true = (x / 2 + 2147483648, x % 2 == 1)) := Lib.hid (by simp [sh])
      go_enter Try.func44, Try.ntmps44
      go_wp2_with fail
      refine (B0 _).out.mono ?_
      rintro e w1 ⟨rfl, rfl⟩
      go_wp2_with fail
      exact bodyPost_ret (v := .tuple #[u (x / 2 + 2147483648), .bool (x % 2 == 1)]) (by simp [results, Try.results44, go_sem, e1, e2, e3]) rfl ⟨by rw [HS.out], rfl⟩
    | false =>
      have HS : Hid (sh 4 x 1 false = (x / 2, x % 2 == 1)) := Lib.hid (by simp [sh])
      go_enter Try.func44, Try.ntmps44
      go_wp2_with fail
      refine (B0 _).out.mono ?_
      rintro e w1 ⟨rfl, rfl⟩
      go_wp2_with fail
      exact bodyPost_ret (v := .tuple #[u (x / 2), .bool (x % 2 == 1)]) (by simp [results, Try.results44, go_sem, e1, e2]) rfl ⟨by rw [HS.out], rfl⟩

/-- The reference's loop: N times by one. -/
theorem ref_loop (w : World) (k x n : Int) (c : Bool) (N : Nat) (hk : 0 ≤ k ∧ k ≤ 4) (hN : N < 256) (hn : (if k = 4 then 1 else n % 256) = (N : Int)) (st : Nat → Int × Bool) (h0 : st 0 = (x, c))
    (hs : ∀ j, j < N → W32 (st j).1 ∧ sh k (st j).1 1 (st j).2 = st (j + 1)) :
    Calls Try.prog 23 #[.int .i64 k, u x, .int .i64 n, .bool c] w fun e w' => e = .returned (.tuple #[u (st N).1, .bool (st N).2]) ∧ w' = w := by
  have ha := and_i64_255 n
  have HO := fun j (hj : j < N) w => Lib.hid (one_calls w k (st j).1 (st j).2 (hs j hj).1 hk)
  have HS := fun j (hj : j < N) => Lib.hid (hs j hj).2
  have H0 := Lib.hid h0
  clear hs h0
  obtain ⟨k0, k1⟩ := hk
  have k2 : ¬ k < 0 := by omega
  have k3 : ¬ 4 < k := by omega
  by_cases k4 : k = 4
  · rw [if_pos k4] at hn
    subst k4
    obtain rfl : N = 1 := by omega
    clear hn ha
    go_enter Try.func23, Try.ntmps23
    go_wp2_with fail
    go_loopw [1, 3, 10] (fun a b i wr => ∃ j : Nat, j ≤ 1 ∧ i = .int .i64 j ∧ Hid (a = u (st j).1 ∧ b = .bool (st j).2) ∧ wr = w) (fun _ _ i _ => 1 - (intOf i).toNat)
    case atStart => exact ⟨0, Nat.zero_le _, rfl, by refine Lib.hid ?_; rw [H0.out]; exact ⟨rfl, rfl⟩, rfl⟩
    case round =>
      obtain ⟨j, hj, rfl, hab, rfl⟩ := hrel
      obtain ⟨rfl, rfl⟩ := hab.out
      clear hab
      by_cases hjN : j < 1
      · have HO := HO j hjN
        rw [(HS j hjN).out] at HO
        have q := hjN
        go_wp2_with fail
        refine (HO _).out.mono ?_
        rintro e w1 ⟨rfl, rfl⟩
        go_wp2_with fail
        go_roundw
        case rel => exact ⟨j + 1, by omega, by go_num, Lib.hid ⟨rfl, rfl⟩, trivial⟩
        case measure => simp [intOf]; omega
      · obtain rfl : j = 1 := by omega
        go_wp2_with fail
        exact bodyPost_ret (v := .tuple #[u (st 1).1, .bool (st 1).2]) (by simp [results, Try.results23, go_sem]) rfl ⟨rfl, rfl⟩
  · rw [if_neg k4] at hn
    rw [hn] at ha
    clear hn
    go_enter Try.func23, Try.ntmps23
    go_wp2_with fail
    go_loopw [1, 3, 10] (fun a b i wr => ∃ j : Nat, j ≤ N ∧ i = .int .i64 j ∧ Hid (a = u (st j).1 ∧ b = .bool (st j).2) ∧ wr = w) (fun _ _ i _ => N - (intOf i).toNat)
    case atStart => exact ⟨0, Nat.zero_le _, rfl, by refine Lib.hid ?_; rw [H0.out]; exact ⟨rfl, rfl⟩, rfl⟩
    case round =>
      obtain ⟨j, hj, rfl, hab, rfl⟩ := hrel
      obtain ⟨rfl, rfl⟩ := hab.out
      clear hab
      by_cases hjN : j < N
      · have HO := HO j hjN
        rw [(HS j hjN).out] at HO
        have q := hjN
        go_wp2_with fail
        refine (HO _).out.mono ?_
        rintro e w1 ⟨rfl, rfl⟩
        go_wp2_with fail
        go_roundw
        case rel => exact ⟨j + 1, by omega, by go_num, Lib.hid ⟨rfl, rfl⟩, trivial⟩
        case measure => simp [intOf]; omega
      · obtain rfl : j = N := by omega
        go_wp2_with fail
        exact bodyPost_ret (v := .tuple #[u (st j).1, .bool (st j).2]) (by simp [results, Try.results23, go_sem]) rfl ⟨rfl, rfl⟩

/-- The reference's shift answers as the program's. -/
theorem ref_shift_calls (w : World) (k x n : Int) (c : Bool) (hx : W32 x) :
    Calls Try.prog 23 #[.int .i64 k, u x, .int .i64 n, .bool c] w fun e w' => e = .returned (.tuple #[u (sh k x (n % 256).toNat c).1, .bool (sh k x (n % 256).toNat c).2]) ∧ w' = w := by
  by_cases hk : 0 ≤ k ∧ k ≤ 4
  · by_cases k4 : k = 4
    · subst k4
      have := ref_loop w 4 x n c 1 (by omega) (by decide) rfl (fun j => if j = 0 then (x, c) else sh 4 x 1 c) rfl (fun j hj => by
        obtain rfl : j = 0 := by omega
        exact ⟨hx, rfl⟩)
      have e : sh 4 x (n % 256).toNat c = sh 4 x 1 c := by simp [sh]
      rw [e]
      exact this
    · exact ref_loop w k x n c (n % 256).toNat hk (by omega) (by rw [if_neg k4]; omega) (fun j => sh k x j c) (sh_nil k x c k4) (fun j _ => ⟨sh_w hx, sh_step (by omega) hx j c⟩)
  · have HS : Hid (sh k x (n % 256).toNat c = (x, c)) := Lib.hid (by
      unfold sh; rw [if_neg (by omega)]; split
      · rfl
      · rw [if_neg (by omega), if_neg (by omega), if_neg (by omega), if_neg (by omega)])
    by_cases k0 : k < 0
    · go_enter Try.func23, Try.ntmps23
      go_wp2_with fail
      exact bodyPost_ret (v := .tuple #[u x, .bool c]) (by simp [results, Try.results23, go_sem]) rfl ⟨by rw [HS.out], rfl⟩
    · have k4 : 4 < k := by omega
      clear hk
      go_enter Try.func23, Try.ntmps23
      go_wp2_with fail
      exact bodyPost_ret (v := .tuple #[u x, .bool c]) (by simp [results, Try.results23, go_sem]) rfl ⟨by rw [HS.out], rfl⟩
end Go.Proofs.Yteakgeplefjncaa
