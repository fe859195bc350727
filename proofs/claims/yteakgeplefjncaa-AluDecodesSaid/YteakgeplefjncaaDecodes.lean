/- The walk of AluDecodes; of the reference's Decode. -/
import Derived.Test.YteakgeplefjncaaLive
set_option linter.unusedVariables false
set_option linter.unusedSimpArgs false
namespace Go.Proofs.Yteakgeplefjncaa
open Go.RowKit

set_option maxRecDepth 100000 in
theorem ref_decode_calls (w : World) (k n : Int) :
    Calls Try.prog 41 #[.int .i64 k, .int .i64 n] w fun e w' => e = .returned (I2 (decode k n)) ∧ w' = w := by
  by_cases h1 : k < 0
  · have HD : Hid (decode k n = (0, 0)) := Lib.hid (if_pos (.inl h1))
    go_enter Try.func41, Try.ntmps41
    go_wp2_with fail
    exact bodyPost_ret (v := I2 (0, 0)) (by simp [results, Try.results41, go_sem, I2]) rfl ⟨by rw [HD.out], rfl⟩
  by_cases h2 : 3 < k
  · have HD : Hid (decode k n = (0, 0)) := Lib.hid (if_pos (.inr (.inl h2)))
    go_enter Try.func41, Try.ntmps41
    go_wp2_with fail
    exact bodyPost_ret (v := I2 (0, 0)) (by simp [results, Try.results41, go_sem, I2]) rfl ⟨by rw [HD.out], rfl⟩
  by_cases h3 : n < 0
  · have HD : Hid (decode k n = (0, 0)) := Lib.hid (if_pos (.inr (.inr (.inl h3))))
    go_enter Try.func41, Try.ntmps41
    go_wp2_with fail
    exact bodyPost_ret (v := I2 (0, 0)) (by simp [results, Try.results41, go_sem, I2]) rfl ⟨by rw [HD.out], rfl⟩
  by_cases h4 : 31 < n
  · have HD : Hid (decode k n = (0, 0)) := Lib.hid (if_pos (.inr (.inr (.inr h4))))
    go_enter Try.func41, Try.ntmps41
    go_wp2_with fail
    exact bodyPost_ret (v := I2 (0, 0)) (by simp [results, Try.results41, go_sem, I2]) rfl ⟨by rw [HD.out], rfl⟩
  by_cases h5 : 0 < n
  · have HD : Hid (decode k n = (k, n)) := Lib.hid (by unfold decode; rw [if_neg (by omega), if_pos (by omega)])
    go_enter Try.func41, Try.ntmps41
    go_wp2_with fail
    exact bodyPost_ret (v := I2 (k, n)) (by simp [results, Try.results41, go_sem, I2]) rfl ⟨by rw [HD.out], rfl⟩
  obtain rfl : n = 0 := by omega
  clear h3 h4 h5
  rcases (show k = 0 ∨ k = 1 ∨ k = 2 ∨ k = 3 by omega) with rfl | rfl | rfl | rfl
  all_goals
    clear h1 h2
    go_enter Try.func41, Try.ntmps41
    go_wp2_with fail
  · exact bodyPost_ret (v := I2 (0, 0)) (by simp [results, Try.results41, go_sem, I2]) rfl ⟨rfl, rfl⟩
  · exact bodyPost_ret (v := I2 (1, 32)) (by simp [results, Try.results41, go_sem, I2]) rfl ⟨rfl, rfl⟩
  · exact bodyPost_ret (v := I2 (2, 32)) (by simp [results, Try.results41, go_sem, I2]) rfl ⟨rfl, rfl⟩
  · exact bodyPost_ret (v := I2 (4, 1)) (by simp [results, Try.results41, go_sem, I2]) rfl ⟨rfl, rfl⟩

set_option maxRecDepth 100000 in
set_option maxHeartbeats 2000000 in
theorem decodes_core (w : World) (k0 n : Int) :
    Calls Try.prog 17 #[.int .i64 k0, .int .i64 n] w fun e w' => e = .returned (.bool true) ∧ Below w.heap.size w w' := by
  have HL := fun w => Lib.hid (live_calls w)
  have HA := fun w k m => Lib.hid (decode_calls w k m)
  have HR := fun w k m => Lib.hid (ref_decode_calls w k m)
  simp only [I2] at HA HR
  generalize decode = s at *
  go_enter Try.func17, Try.ntmps17
  go_wp2_with fail
  refine (HL _).out.mono ?_
  rintro e w1 ⟨rfl, hb1⟩
  have HB1 := Lib.hid hb1
  clear hb1
  go_wp2_with fail
  go_loopw [5] (fun i wr => ∃ k : Int, (-1 ≤ k ∧ k ≤ 6) ∧ i = .int .i64 k ∧ Hid (Below w.heap.size w wr)) (fun i _ => (6 - intOf i).toNat)
  case atStart => exact ⟨-1, by omega, rfl, HB1⟩
  case round =>
    obtain ⟨k, hk, rfl, HB⟩ := hrel
    clear HB1
    by_cases hk6 : k < 6
    · go_wp2_with fail
      go_loopw [6] (fun i wr => ∃ j : Int, (-1 ≤ j ∧ j ≤ 34) ∧ i = .int .i64 j ∧ Hid (Below w.heap.size w wr)) (fun i _ => (34 - intOf i).toNat)
      case atStart => exact ⟨-1, by omega, rfl, HB⟩
      case round =>
        obtain ⟨j, hj, rfl, HB'⟩ := hrel
        clear HB
        by_cases hj9 : j < 34
        · go_wp2_with fail
          refine (HA _ _ _).out.mono ?_
          rintro e w2 ⟨rfl, hb⟩
          have HB2 := Lib.hid (below_then HB'.out HB'.out.size hb)
          clear hb
          go_wp2_with fail
          refine (HR _ _ _).out.mono ?_
          rintro e w3 ⟨rfl, rfl⟩
          go_wp2_with fail
          go_roundw
          case rel => exact ⟨j + 1, by omega, by go_num, HB2⟩
          case measure => simp [intOf]; omega
        · go_wp2_with fail
          go_roundw
          case rel => exact ⟨k + 1, by omega, by go_num, HB'⟩
          case measure => simp [intOf]; omega
    · go_wp2_with fail
      refine (HA _ _ _).out.mono ?_
      rintro e w2 ⟨rfl, hb⟩
      have HB2 := Lib.hid (below_then HB.out HB.out.size hb)
      clear hb
      go_wp2_with fail
      refine (HR _ _ _).out.mono ?_
      rintro e w3 ⟨rfl, rfl⟩
      go_wp2_with fail
      go_ret
      exact ⟨by simp, HB2.out⟩
end Go.Proofs.Yteakgeplefjncaa
