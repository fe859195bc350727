/- The walk of live: the chapter's examples come. -/
import Derived.Test.YteakgeplefjncaaDo
import Derived.Test.YteakgeplefjncaaOne
import Derived.Test.YteakgeplefjncaaLong
import Derived.Test.YteakgeplefjncaaSmall
import Derived.Test.YteakgeplefjncaaPack
import Derived.Test.YteakgeplefjncaaWord
set_option linter.unusedVariables false
set_option linter.unusedSimpArgs false
namespace Go.Proofs.Yteakgeplefjncaa
open Go.RowKit

theorem w32_dec {x : Int} (h : 0 ≤ x ∧ x < 4294967296) : W32 x := h
set_option maxRecDepth 100000 in
set_option maxHeartbeats 2000000 in
theorem live_calls (w : World) : Calls Try.prog 18 #[] w fun e w' => e = .returned (.bool true) ∧ Below w.heap.size w w' := by
  have H1 : ∀ w, Hid (Calls Try.prog 22 #[.int .i64 4, .int .u32 3, .int .i64 0, .bool true] w fun e w' => e = .returned (.tuple #[.int .u32 2147483649, .bool true]) ∧ Below w.heap.size w w') := fun w => Lib.hid (shift_calls w 4 3 0 true (w32_dec (by decide)))
  have H2 : ∀ w, Hid (Calls Try.prog 26 #[.int .i64 3, .int .u32 5, .int .u32 5, .bool false, .agg #[.bool false, .bool false, .bool false, .bool false]] w fun e w' => e = .returned (.tuple #[.int .u32 0, .bool true, .agg #[.bool false, .bool true, .bool true, .bool false]]) ∧ Below w.heap.size w w') := fun w => Lib.hid (by
    have h := do_calls w 3 5 5 false ⟨false, false, false, false⟩ (w32_dec (by decide)) (w32_dec (by decide))
    have e : D3 (doM 3 5 5 false ⟨false, false, false, false⟩) = .tuple #[.int .u32 0, .bool true, .agg #[.bool false, .bool true, .bool true, .bool false]] := by kernel_rfl
    rw [e] at h
    exact h)
  have H3 : ∀ w, Hid (Calls Try.prog 38 #[.int .u32 1020] w fun e w' => e = .returned (.tuple #[.int .u32 4095, .bool true]) ∧ w' = w) := fun w => Lib.hid (by
    have h := pack_calls w 1020 (w32_dec (by decide))
    have e : P2' (pack 1020) = .tuple #[.int .u32 4095, .bool true] := by kernel_rfl
    rw [e] at h
    exact h)
  have H4 : ∀ w, Hid (Calls Try.prog 28 #[.int .i64 23, .int .u32 4294967295, .int .u32 2, .int .u32 0, .int .u32 0] w fun e w' => e = .returned (.tuple #[.int .u32 4294967295, .int .u32 4294967294, .bool true]) ∧ w' = w) := fun w => Lib.hid (by
    have h := long_calls w 23 4294967295 2 0 0 (w32_dec (by decide)) (w32_dec (by decide)) (w32_dec (by decide)) (w32_dec (by decide))
    have e : L3 (long 23 4294967295 2 0 0) = .tuple #[.int .u32 4294967295, .int .u32 4294967294, .bool true] := by kernel_rfl
    rw [e] at h
    exact h)
  have H5 : ∀ w, Hid (Calls Try.prog 30 #[.int .i64 29, .int .u32 32768, .int .i64 1] w fun e w' => e = .returned (.tuple #[.int .u32 4294967168, .bool true]) ∧ w' = w) := fun w => Lib.hid (by
    have h := small_calls w 29 32768 1 (w32_dec (by decide))
    have e : P2 (small 29 32768 1) = .tuple #[.int .u32 4294967168, .bool true] := by kernel_rfl
    rw [e] at h
    exact h)
  have H6 : ∀ w, Hid (Calls Try.prog 20 #[.int .i64 8, .agg #[.bool false, .bool false, .bool true, .bool false]] w fun e w' => e = .returned (.bool true) ∧ Below w.heap.size w w') := fun w => Lib.hid (passed_calls w 8 ⟨false, false, true, false⟩)
  have H7 : ∀ w, Hid (Calls Try.prog 33 #[.agg #[.bool false, .bool true, .bool true, .bool false]] w fun e w' => e = .returned (.int .u32 1610612736) ∧ Below w.heap.size w w') := fun w => Lib.hid (word_calls w ⟨false, true, true, false⟩)
  go_enter Try.func18, Try.ntmps18
  go_wp2_with fail
  refine (H1 _).out.mono ?_
  rintro e w1 ⟨rfl, hb1⟩
  have HB1 := Lib.hid hb1
  clear hb1
  go_wp2_with fail
  refine (H2 _).out.mono ?_
  rintro e w2 ⟨rfl, hb2⟩
  have HB2 := Lib.hid (below_then HB1.out HB1.out.size hb2)
  clear hb2
  go_wp2_with fail
  refine (H3 _).out.mono ?_
  rintro e w3 ⟨rfl, rfl⟩
  go_wp2_with fail
  refine (H4 _).out.mono ?_
  rintro e w4 ⟨rfl, rfl⟩
  go_wp2_with fail
  refine (H5 _).out.mono ?_
  rintro e w5 ⟨rfl, rfl⟩
  go_wp2_with fail
  refine (H6 _).out.mono ?_
  rintro e w6 ⟨rfl, hb⟩
  obtain ⟨hz, hc, hf⟩ := newbox hb
  have d0 := hc 0 (.bool false) rfl
  have d1 := hc 1 (.bool true) rfl
  have d2 := hc 2 (.bool true) rfl
  have d3 := hc 3 (.bool false) rfl
  have HB6 := Lib.hid (below_then HB2.out HB2.out.size (below_then ((Below.refl _ _).alloc (Nat.le_refl _) _) (by simp) hb))
  clear hc hf hb
  go_wp2_with fail
  refine (H7 _).out.mono ?_
  rintro e w7 ⟨rfl, hb⟩
  have HB7 := Lib.hid (below_then HB6.out HB6.out.size hb)
  clear hb
  go_wp2_with fail
  go_ret
  exact ⟨rfl, HB7.out⟩
end Go.Proofs.Yteakgeplefjncaa
