/- The walk of AluTurns. -/
import Derived.Test.YteakgeplefjncaaSums
set_option linter.unusedVariables false
set_option linter.unusedSimpArgs false
namespace Go.Proofs.Yteakgeplefjncaa
open Go.RowKit

theorem rot_back {x : Int} (hx : W32 x) {m : Nat} (h : 1 ≤ m ∧ m ≤ 31) : rot (rot x m) (32 - m) = x := by
  obtain ⟨x0, x1⟩ := hx
  unfold rot
  rcases (show m = 1 ∨ m = 2 ∨ m = 3 ∨ m = 4 ∨ m = 5 ∨ m = 6 ∨ m = 7 ∨ m = 8 ∨ m = 9 ∨ m = 10 ∨ m = 11 ∨ m = 12 ∨ m = 13 ∨ m = 14 ∨ m = 15 ∨ m = 16 ∨ m = 17 ∨ m = 18 ∨ m = 19 ∨ m = 20 ∨ m = 21 ∨ m = 22 ∨ m = 23 ∨ m = 24 ∨ m = 25 ∨ m = 26 ∨ m = 27 ∨ m = 28 ∨ m = 29 ∨ m = 30 ∨ m = 31 by omega) with rfl | rfl | rfl | rfl | rfl | rfl | rfl | rfl | rfl | rfl | rfl | rfl | rfl | rfl | rfl | rfl | rfl | rfl | rfl | rfl | rfl | rfl | rfl | rfl | rfl | rfl | rfl | rfl | rfl | rfl | rfl <;>
    simp only [Nat.reduceSub, Int.reducePow] <;> omega
theorem carried {x : Int} (hx : W32 x) (c : Bool) : sh 4 (sum x x c).1 0 (sum x x c).2.c = (x, c) := by
  obtain ⟨x0, x1⟩ := hx
  unfold sum
  simp only [marks, sh, if_true]
  cases c <;> simp only [one?, if_true, if_false, Bool.false_eq_true]
  · refine Prod.ext ?_ ?_
    · show (x + x + 0) % 4294967296 / 2 + _ = x
      by_cases h : 4294967296 ≤ x + x + 0
      · rw [if_pos (by simpa using h)]; omega
      · rw [if_neg (by simpa using h)]; omega
    · show ((x + x + 0) % 4294967296 % 2 == 1) = false
      have : (x + x + 0) % 4294967296 % 2 = 0 := by omega
      rw [this]; rfl
  · refine Prod.ext ?_ ?_
    · show (x + x + 1) % 4294967296 / 2 + _ = x
      by_cases h : 4294967296 ≤ x + x + 1
      · rw [if_pos (by simpa using h)]; omega
      · rw [if_neg (by simpa using h)]; omega
    · show ((x + x + 1) % 4294967296 % 2 == 1) = true
      have : (x + x + 1) % 4294967296 % 2 = 1 := by omega
      rw [this]; rfl

set_option maxRecDepth 100000 in
set_option maxHeartbeats 2000000 in
theorem turns_core (w : World) (x n : Int) (c : Bool) (hx : W32 x) :
    Calls Try.prog 11 #[u x, .int .i64 n, .bool c] w fun e w' => e = .returned (.bool true) ∧ Below w.heap.size w w' := by
  have HL := fun w => Lib.hid (live_calls w)
  have a1 := and_i64_15 n
  have a2 := and_i64_15 (n / 16)
  obtain ⟨p, hp⟩ : ∃ p, n % 16 = p := ⟨_, rfl⟩
  obtain ⟨q, hq⟩ : ∃ q, n / 16 % 16 = q := ⟨_, rfl⟩
  have hpb : 0 ≤ p ∧ p < 16 := by omega
  have hqb : 0 ≤ q ∧ q < 16 := by omega
  rw [hp] at a1
  rw [hq] at a2
  obtain ⟨N, hN⟩ := Int.eq_ofNat_of_zero_le (show 0 ≤ 1 + p + q by omega)
  have hNb : 1 ≤ N ∧ N ≤ 31 := by omega
  have w1 : wrap64 (1 + p) = 1 + p := by unfold wrap64; omega
  have w2 : wrap64 (1 + p + q) = N := by unfold wrap64; omega
  have w3 : wrap64 (32 - (N : Int)) = 32 - N := by unfold wrap64; omega
  have H1 := fun w => shift_calls w 3 x N c hx
  rw [show ((N : Int) % 256).toNat = N by omega, sh_ror c (by omega), show N % 32 = N by omega] at H1
  have H2 := fun w => shift_calls w 3 (rot x N) (32 - (N : Int)) c (rot_w hx (by omega))
  rw [show ((32 - (N : Int)) % 256).toNat = 32 - N by omega, sh_ror c (by omega), show (32 - N) % 32 = 32 - N by omega, rot_back hx hNb] at H2
  have H3 := fun w => do_calls w 6 x x false ⟨false, false, c, false⟩ hx hx
  have e3 : doM 6 x x false ⟨false, false, c, false⟩ = ((sum x x c).1, true, (sum x x c).2) := rfl
  rw [e3] at H3
  have H4 := fun w => shift_calls w 4 (sum x x c).1 0 (sum x x c).2.c ⟨by unfold sum; show 0 ≤ _ % _; omega, by unfold sum; show _ % _ < _; omega⟩
  rw [show ((0 : Int) % 256).toNat = 0 from rfl, carried hx c] at H4
  generalize sum x x c = m at *
  obtain ⟨r, ⟨mn, mz, mc, mv⟩⟩ := m
  generalize rot x N = y at *
  generalize top y = ty at *
  generalize top x = tx at *
  simp only [D3, F.val] at H3
  have H1 := fun w => Lib.hid (H1 w)
  have H2 := fun w => Lib.hid (H2 w)
  have H3 := fun w => Lib.hid (H3 w)
  have H4 := fun w => Lib.hid (H4 w)
  clear e3 hp hq hpb hqb hN hNb hx
  go_enter Try.func11, Try.ntmps11
  go_wp2_with fail
  refine (H1 _).out.mono ?_
  rintro e v1 ⟨rfl, hb⟩
  have HB1 := Lib.hid hb
  clear hb
  go_wp2_with fail
  refine (H2 _).out.mono ?_
  rintro e v2 ⟨rfl, hb⟩
  have HB2 := Lib.hid (below_then HB1.out HB1.out.size hb)
  clear hb
  go_wp2_with fail
  refine (H3 _).out.mono ?_
  rintro e v3 ⟨rfl, hb⟩
  have HB3 := Lib.hid (below_then HB2.out HB2.out.size hb)
  clear hb
  go_wp2_with fail
  refine (H4 _).out.mono ?_
  rintro e v4 ⟨rfl, hb⟩
  have HB4 := Lib.hid (below_then HB3.out HB3.out.size (below_unalloc hb))
  clear hb
  go_wp2_with fail
  refine (HL _).out.mono ?_
  rintro e v5 ⟨rfl, hb⟩
  have HB5 := Lib.hid (below_then HB4.out HB4.out.size hb)
  clear hb
  go_wp2_with fail
  go_ret
  exact ⟨by simp, HB5.out⟩
end Go.Proofs.Yteakgeplefjncaa
