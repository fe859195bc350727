/- The walk of AluSmalls; of the reference's Small. Printed by mksmalls.py. -/
import Derived.Test.YteakgeplefjncaaLive
set_option linter.unusedVariables false
set_option linter.unusedSimpArgs false
namespace Go.Proofs.Yteakgeplefjncaa
open Go.RowKit

theorem bitLen_at {x : Nat} {k : Nat} (h0 : 2 ^ k ≤ x) (h1 : x < 2 ^ (k + 1)) (hx : x < 2 ^ 64) : Lib.bitLen x = k + 1 := by
  rw [Lib.bitLen_shift k x h0 hx]
  have e : x / 2 ^ k = 1 := by
    apply Nat.div_eq_of_lt_le
    · omega
    · rw [Nat.pow_succ] at h1; omega
  rw [e]
  have : Lib.bitLen 1 = 1 := by decide +kernel
  omega
theorem clz_at {x : Int} (hx : W32 x) {j : Nat} (hj : j < 32) (h0 : 2 ^ (31 - j) ≤ x) (h1 : x < 2 ^ (32 - j)) : clz x = j := by
  obtain ⟨x0, x1⟩ := hx
  obtain ⟨a, rfl⟩ := Int.eq_ofNat_of_zero_le x0
  have h0' : 2 ^ (31 - j) ≤ a := by exact_mod_cast h0
  have h1' : a < 2 ^ (31 - j + 1) := by rw [show 31 - j + 1 = 32 - j by omega]; exact_mod_cast h1
  have := bitLen_at h0' h1' (by omega)
  unfold clz
  show 32 - ((Lib.bitLen a : Nat) : Int) = j
  rw [this]; omega
theorem clz_zero : clz 0 = 32 := by decide +kernel
theorem bit_down {x : Int} {j : Nat} (hj : j < 32) (h1 : x < 2 ^ (32 - j)) (h0 : 0 ≤ x) :
    (x / 2 ^ (31 - j) % 2 = 1 → 2 ^ (31 - j) ≤ x) ∧ (¬ x / 2 ^ (31 - j) % 2 = 1 → x < 2 ^ (31 - j)) := by
  have p := pow_pos' (31 - j)
  have e : (2 : Int) ^ (32 - j) = 2 ^ (31 - j) * 2 := by rw [show 32 - j = 31 - j + 1 by omega, Int.pow_succ]
  rw [e] at h1
  have q0 : 0 ≤ x / 2 ^ (31 - j) := Int.ediv_nonneg h0 (by omega)
  have q1 : x / 2 ^ (31 - j) < 2 := Int.ediv_lt_of_lt_mul p (by omega)
  constructor
  · intro h
    have : 1 ≤ x / 2 ^ (31 - j) := by omega
    have := (Int.le_ediv_iff_mul_le p).1 this
    omega
  · intro h
    have h2 : x / 2 ^ (31 - j) = 0 := by omega
    have := Int.emod_add_mul_ediv x (2 ^ (31 - j))
    rw [h2, Int.mul_zero, Int.add_zero] at this
    rw [← this]
    exact Int.emod_lt_of_pos x p
theorem rev_ref {x : Int} (hx : W32 x) :
    bits .or .u32 (bits .or .u32 (bits .or .u32 (x % 256 * 16777216) (x / 256 % 256 * 65536)) (x / 65536 % 256 * 256)) (x / 16777216) = rev x := by
  obtain ⟨x0, x1⟩ := hx
  unfold rev
  obtain ⟨b0, h0⟩ : ∃ b, x % 256 = b := ⟨_, rfl⟩
  obtain ⟨b1, h1⟩ : ∃ b, x / 256 % 256 = b := ⟨_, rfl⟩
  obtain ⟨b2, h2⟩ : ∃ b, x / 65536 % 256 = b := ⟨_, rfl⟩
  obtain ⟨b3, h3⟩ : ∃ b, x / 16777216 = b := ⟨_, rfl⟩
  have r0 : 0 ≤ b0 ∧ b0 < 256 := by omega
  have r1 : 0 ≤ b1 ∧ b1 < 256 := by omega
  have r2 : 0 ≤ b2 ∧ b2 < 256 := by omega
  have r3 : 0 ≤ b3 ∧ b3 < 256 := by omega
  rw [h0, h1, h2, h3]
  clear h0 h1 h2 h3 x0 x1
  rw [or_u32 24 (x := b0 * 16777216) (y := b1 * 65536) (by omega) (by omega) (by omega) (by omega) (by omega) (by omega)]
  rw [or_u32 16 (x := b0 * 16777216 + b1 * 65536) (y := b2 * 256) (by omega) (by omega) (by omega) (by omega) (by omega) (by omega)]
  rw [or_u32 8 (x := b0 * 16777216 + b1 * 65536 + b2 * 256) (y := b3) (by omega) (by omega) (by omega) (by omega) (by omega) (by omega)]

set_option maxRecDepth 100000 in
set_option maxHeartbeats 4000000 in
theorem ref_small_calls (w : World) (op x n : Int) (hx : W32 x) :
    Calls Try.prog 31 #[.int .i64 op, u x, .int .i64 n] w fun e w' => e = .returned (P2 (small op x n)) ∧ w' = w := by
  have ha := and_i64_3 n
  obtain ⟨m, hm⟩ : ∃ m, n % 4 = m := ⟨_, rfl⟩
  have hml : 0 ≤ m ∧ m < 4 := by omega
  have HR := fun w => ref_shift_calls w 3 x (8 * m) false hx
  have hsh : (sh 3 x ((8 * m) % 256).toNat false).1 = rot x (8 * m.toNat) := by
    rw [show ((8 * m) % 256).toNat = 8 * m.toNat by omega]
    by_cases h0 : m = 0
    · subst h0; exact (rot_zero x).symm
    · rw [sh_ror false (by omega)]; show rot x (8 * m.toNat % 32) = _; rw [show 8 * m.toNat % 32 = 8 * m.toNat by omega]
  rw [hsh] at HR
  have hw := rot_w hx (r := 8 * m.toNat) (by omega)
  have e5 : wrap64 (8 * m) = 8 * m := by unfold wrap64; omega
  have hS : ∀ t, t = rot x (8 * m.toNat) → small op x n = if op = 25 then (clz x, true) else if op = 26 then (rev x, true) else if op = 27 then (t % 256, true) else if op = 28 then (t % 65536, true)
      else if op = 29 then ((if 128 ≤ t % 256 then t % 256 + 4294967040 else t % 256), true) else if op = 30 then ((if 32768 ≤ t % 65536 then t % 65536 + 4294901760 else t % 65536), true) else (0, false) := fun t ht => by
    rw [ht, ← hm]; rfl
  rw [hm] at ha
  obtain ⟨t, ht⟩ : ∃ t, rot x (8 * m.toNat) = t := ⟨_, rfl⟩
  have HS := Lib.hid (hS t ht.symm)
  rw [ht] at HR hw
  generalize (sh 3 x ((8 * m) % 256).toNat false).2 = cc at HR
  have HR := fun w => Lib.hid (HR w)
  have a1 := and_u32_255 hw
  have a2 := and_u32_65535 hw
  obtain ⟨t0, t1⟩ := hw
  have g1 : (t % 256 + 4294967040) % 4294967296 = t % 256 + 4294967040 := by omega
  have g2 : (t % 65536 + 4294901760) % 4294967296 = t % 65536 + 4294901760 := by omega
  clear hS hm hsh ht hml t0 t1
  rw [HS.out]
  rcases (show op = 25 ∨ op = 26 ∨ op = 27 ∨ op = 28 ∨ op = 29 ∨ op = 30 ∨ (¬ op = 25 ∧ ¬ op = 26 ∧ ¬ op = 27 ∧ ¬ op = 28 ∧ ¬ op = 29 ∧ ¬ op = 30) by omega) with rfl | rfl | rfl | rfl | rfl | rfl | ⟨k0, k1, k2, k3, k4, k5⟩
  · rw [if_pos rfl]
    have HBit : ∀ w (j : Nat) (hj : j < 32), Hid (Calls Try.prog 42 #[u x, .int .i64 (31 - (j : Int))] w fun e w' => e = .returned (.bool (x / 2 ^ (31 - j) % 2 == 1)) ∧ w' = w) := fun w j hj => Lib.hid (by
      have h := bit_calls w x (31 - j) hx (by omega)
      rw [show ((31 - j : Nat) : Int) = 31 - (j : Int) by omega] at h
      exact h)
    have HC := fun (j : Nat) hj h0 h1 => Lib.hid (clz_at hx (j := j) hj h0 h1)
    have HD := fun (j : Nat) hj h1 => Lib.hid (bit_down (x := x) (j := j) hj h1 hx.1)
    have hx0 := hx.1
    have hx1 : Hid (x < 2 ^ (32 - 0)) := Lib.hid (by have := hx.2; simpa using this)
    clear hx a1 a2 g1 g2
    go_enter Try.func31, Try.ntmps31
    go_wp2_with fail
    refine (HR _).out.mono ?_
    rintro e w1 ⟨rfl, rfl⟩
    go_wp2_with fail
    go_loopw [10] (fun i wr => ∃ j : Nat, j ≤ 32 ∧ i = .int .u32 j ∧ Hid (x < 2 ^ (32 - j)) ∧ wr = w1) (fun i _ => 32 - (intOf i).toNat)
    case atStart => exact ⟨0, by omega, rfl, hx1, rfl⟩
    case round =>
      obtain ⟨j, hj, rfl, hlt, rfl⟩ := hrel
      clear hx1
      by_cases hj2 : j < 32
      · have q : (j : Int) < 32 := by omega
        have e6 : wrap64 (j : Int) = j := by unfold wrap64; omega
        have e7 : wrap64 (31 - (j : Int)) = 31 - (j : Int) := by unfold wrap64; omega
        have e8 : ((j : Int) + 1) % 4294967296 = (j : Int) + 1 := by omega
        have HBit := fun w => HBit w j hj2
        have hd := (HD j hj2 hlt.out).out
        by_cases hb : x / 2 ^ (31 - j) % 2 = 1
        · have hc := Lib.hid ((HC j hj2 (hd.1 hb) hlt.out).out)
          rw [show (x / 2 ^ (31 - j) % 2 == 1) = true by rw [hb]; rfl] at HBit
          clear hd hb
          go_wp2_with fail
          refine (HBit _).out.mono ?_
          rintro e w2 ⟨rfl, rfl⟩
          go_wp2_with fail
          exact bodyPost_ret (v := P2 ((j : Int), true)) (by simp [results, Try.results31, go_sem, P2]) rfl ⟨by rw [hc.out], rfl⟩
        · have hn : Hid (x < 2 ^ (32 - (j + 1))) := Lib.hid (by rw [show 32 - (j + 1) = 31 - j by omega]; exact hd.2 hb)
          rw [show (x / 2 ^ (31 - j) % 2 == 1) = false by simpa using hb] at HBit
          clear hd hb
          go_wp2_with fail
          refine (HBit _).out.mono ?_
          rintro e w2 ⟨rfl, rfl⟩
          go_wp2_with fail
          go_roundw
          case rel => exact ⟨j + 1, by omega, by first | rfl | go_num, hn, trivial⟩
          case measure => simp [intOf]; omega
      · obtain rfl : j = 32 := by omega
        have hc : Hid (clz x = 32) := Lib.hid (by have h := hlt.out; rw [show x = 0 by simp at h; omega]; exact clz_zero)
        go_wp2_with fail
        exact bodyPost_ret (v := P2 (32, true)) (by simp [results, Try.results31, go_sem, P2]) rfl ⟨by rw [hc.out], rfl⟩
  · rw [if_neg (by decide), if_pos rfl]
    have b1 := and_u32_255 hx
    have b2 := and_u32_255 (x := x / 256) (by obtain ⟨x0, x1⟩ := hx; exact ⟨by omega, by omega⟩)
    have b3 := and_u32_255 (x := x / 65536) (by obtain ⟨x0, x1⟩ := hx; exact ⟨by omega, by omega⟩)
    have hv := Lib.hid (rev_ref hx)
    rw [← hv.out]
    go_enter Try.func31, Try.ntmps31
    go_wp2_with fail
    refine (HR _).out.mono ?_
    rintro e w1 ⟨rfl, rfl⟩
    go_wp2_with fail
    exact bodyPost_ret (v := P2 (bits .or .u32 (bits .or .u32 (bits .or .u32 (x % 256 * 16777216) (x / 256 % 256 * 65536)) (x / 65536 % 256 * 256)) (x / 16777216), true)) (by simp [results, Try.results31, go_sem, P2, b1, b2, b3]) rfl ⟨rfl, rfl⟩
  · rw [if_neg (by decide), if_neg (by decide), if_pos rfl]
    go_enter Try.func31, Try.ntmps31
    go_wp2_with fail
    refine (HR _).out.mono ?_
    rintro e w1 ⟨rfl, rfl⟩
    go_wp2_with fail
    exact bodyPost_ret (v := P2 (t % 256, true)) (by simp [results, Try.results31, go_sem, P2, a1]) rfl ⟨rfl, rfl⟩
  · rw [if_neg (by decide), if_neg (by decide), if_neg (by decide), if_pos rfl]
    go_enter Try.func31, Try.ntmps31
    go_wp2_with fail
    refine (HR _).out.mono ?_
    rintro e w1 ⟨rfl, rfl⟩
    go_wp2_with fail
    exact bodyPost_ret (v := P2 (t % 65536, true)) (by simp [results, Try.results31, go_sem, P2, a2]) rfl ⟨rfl, rfl⟩
  · rw [if_neg (by decide), if_neg (by decide), if_neg (by decide), if_neg (by decide), if_pos rfl]
    by_cases h : 128 ≤ t % 256
    · rw [if_pos h]
      go_enter Try.func31, Try.ntmps31
      go_wp2_with fail
      refine (HR _).out.mono ?_
      rintro e w1 ⟨rfl, rfl⟩
      go_wp2_with fail
      exact bodyPost_ret (v := P2 (t % 256 + 4294967040, true)) (by simp [results, Try.results31, go_sem, P2, a1, g1]) rfl ⟨rfl, rfl⟩
    · rw [if_neg h]
      go_enter Try.func31, Try.ntmps31
      go_wp2_with fail
      refine (HR _).out.mono ?_
      rintro e w1 ⟨rfl, rfl⟩
      go_wp2_with fail
      exact bodyPost_ret (v := P2 (t % 256, true)) (by simp [results, Try.results31, go_sem, P2, a1]) rfl ⟨rfl, rfl⟩
  · rw [if_neg (by decide), if_neg (by decide), if_neg (by decide), if_neg (by decide), if_neg (by decide), if_pos rfl]
    by_cases h : 32768 ≤ t % 65536
    · rw [if_pos h]
      go_enter Try.func31, Try.ntmps31
      go_wp2_with fail
      refine (HR _).out.mono ?_
      rintro e w1 ⟨rfl, rfl⟩
      go_wp2_with fail
      exact bodyPost_ret (v := P2 (t % 65536 + 4294901760, true)) (by simp [results, Try.results31, go_sem, P2, a2, g2]) rfl ⟨rfl, rfl⟩
    · rw [if_neg h]
      go_enter Try.func31, Try.ntmps31
      go_wp2_with fail
      refine (HR _).out.mono ?_
      rintro e w1 ⟨rfl, rfl⟩
      go_wp2_with fail
      exact bodyPost_ret (v := P2 (t % 65536, true)) (by simp [results, Try.results31, go_sem, P2, a2]) rfl ⟨rfl, rfl⟩
  · rw [if_neg k0, if_neg k1, if_neg k2, if_neg k3, if_neg k4, if_neg k5]
    go_enter Try.func31, Try.ntmps31
    go_wp2_with fail
    refine (HR _).out.mono ?_
    rintro e w1 ⟨rfl, rfl⟩
    go_wp2_with fail
    exact bodyPost_ret (v := P2 (0, false)) (by simp [results, Try.results31, go_sem, P2]) rfl ⟨rfl, rfl⟩

set_option maxRecDepth 100000 in
set_option maxHeartbeats 2000000 in
theorem smalls_core (w : World) (op x n : Int) (hx : W32 x) :
    Calls Try.prog 8 #[.int .i64 op, u x, .int .i64 n] w fun e w' => e = .returned (.bool true) ∧ Below w.heap.size w w' := by
  have HL := fun w => Lib.hid (live_calls w)
  have HA := fun w o => small_calls w o x n hx
  have HR := fun w o => ref_small_calls w o x n hx
  obtain ⟨g, hg⟩ : ∃ g : Int → Int × Bool, ∀ o, small o x n = g o := ⟨_, fun _ => rfl⟩
  simp only [hg, P2] at HA HR
  have HA := fun w o => Lib.hid (HA w o)
  have HR := fun w o => Lib.hid (HR w o)
  clear hg hx
  go_enter Try.func8, Try.ntmps8
  go_wp2_with fail
  refine (HL _).out.mono ?_
  rintro e w1 ⟨rfl, hb1⟩
  have HB1 := Lib.hid hb1
  clear hb1
  go_wp2_with fail
  go_loopw [7] (fun i wr => ∃ k : Int, (23 ≤ k ∧ k ≤ 33) ∧ i = .int .i64 k ∧ wr = w1) (fun i _ => (33 - intOf i).toNat)
  case atStart => exact ⟨23, by omega, rfl, rfl⟩
  case round =>
    obtain ⟨k, hk, rfl, rfl⟩ := hrel
    by_cases hk6 : k < 33
    · by_cases k0 : k = 23
      · subst k0
        go_wp2_with fail
        refine (HA _ _).out.mono ?_
        rintro e w2 ⟨rfl, rfl⟩
        go_wp2_with fail
        refine (HR _ _).out.mono ?_
        rintro e w2 ⟨rfl, rfl⟩
        go_wp2_with fail
        go_roundw
        case rel => exact ⟨24, by omega, by go_num, trivial⟩
        case measure => simp [intOf]
      · go_wp2_with fail
        refine (HA _ _).out.mono ?_
        rintro e w2 ⟨rfl, rfl⟩
        go_wp2_with fail
        refine (HR _ _).out.mono ?_
        rintro e w2 ⟨rfl, rfl⟩
        go_wp2_with fail
        go_roundw
        case rel => exact ⟨k + 1, by omega, by go_num, trivial⟩
        case measure => simp [intOf]; omega
    · go_wp2_with fail
      go_ret
      exact ⟨rfl, HB1.out⟩
end Go.Proofs.Yteakgeplefjncaa
