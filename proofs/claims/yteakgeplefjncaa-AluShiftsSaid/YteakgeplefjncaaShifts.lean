/- The walk of AluShifts. -/
import Derived.Test.YteakgeplefjncaaLive
set_option linter.unusedVariables false
set_option linter.unusedSimpArgs false
namespace Go.Proofs.Yteakgeplefjncaa
open Go.RowKit

set_option maxRecDepth 100000 in
set_option maxHeartbeats 2000000 in
theorem shifts_core (w : World) (k0 x n : Int) (c : Bool) (hx : W32 x) :
    Calls Try.prog 4 #[.int .i64 k0, u x, .int .i64 n, .bool c] w fun e w' => e = .returned (.bool true) ∧ Below w.heap.size w w' := by
  have HL := fun w => Lib.hid (live_calls w)
  obtain ⟨s, hs⟩ : ∃ s : Int → Int → Int × Bool, ∀ k m, sh k x (m % 256).toNat c = s k m := ⟨_, fun _ _ => rfl⟩
  have HA := fun w k m => shift_calls w k x m c hx
  have HR := fun w k m => ref_shift_calls w k x m c hx
  simp only [hs] at HA HR
  have HA := fun w k m => Lib.hid (HA w k m)
  have HR := fun w k m => Lib.hid (HR w k m)
  clear hs hx
  go_enter Try.func4, Try.ntmps4
  go_wp2_with fail
  refine (HL _).out.mono ?_
  rintro e w1 ⟨rfl, hb1⟩
  have HB1 := Lib.hid hb1
  clear hb1
  go_wp2_with fail
  go_loopw [9] (fun i wr => ∃ k : Int, (-1 ≤ k ∧ k ≤ 6) ∧ i = .int .i64 k ∧ Hid (Below w.heap.size w wr)) (fun i _ => (6 - intOf i).toNat)
  case atStart => exact ⟨-1, by omega, rfl, HB1⟩
  case round =>
    obtain ⟨k, hk, rfl, HB⟩ := hrel
    clear HB1
    by_cases hk6 : k < 6
    · go_wp2_with fail
      go_loopw [10] (fun i wr => ∃ j : Int, (0 ≤ j ∧ j ≤ 259) ∧ i = .int .i64 j ∧ Hid (Below w.heap.size w wr)) (fun i _ => (259 - intOf i).toNat)
      case atStart => exact ⟨0, by omega, rfl, HB⟩
      case round =>
        obtain ⟨j, hj, rfl, HB'⟩ := hrel
        clear HB
        by_cases hj9 : j < 259
        · by_cases h7 : j = 257
          · subst h7
            go_wp2_with fail
            refine (HA _ _ _).out.mono ?_
            rintro e w2 ⟨rfl, hb⟩
            have HB2 := Lib.hid (below_then HB'.out HB'.out.size hb)
            clear hb
            go_wp2_with fail
            refine (HR _ _ _).out.mono ?_
            rintro e w3 ⟨rfl, rfl⟩
            go_wp2_with fail
            go_roundw
            case rel => exact ⟨258, by omega, by go_num, HB2⟩
            case measure => simp [intOf]
          · by_cases h8 : j = 258
            · subst h8
              go_wp2_with fail
              refine (HA _ _ _).out.mono ?_
              rintro e w2 ⟨rfl, hb⟩
              have HB2 := Lib.hid (below_then HB'.out HB'.out.size hb)
              clear hb
              go_wp2_with fail
              refine (HR _ _ _).out.mono ?_
              rintro e w3 ⟨rfl, rfl⟩
              go_wp2_with fail
              go_roundw
              case rel => exact ⟨259, by omega, by go_num, HB2⟩
              case measure => simp [intOf]
            · go_wp2_with fail
              refine (HA _ _ _).out.mono ?_
              rintro e w2 ⟨rfl, hb⟩
              have HB2 := Lib.hid (below_then HB'.out HB'.out.size hb)
              clear hb
              go_wp2_with fail
              refine (HR _ _ _).out.mono ?_
              rintro e w3 ⟨rfl, rfl⟩
              go_wp2_with fail
              go_roundw
              case rel => exact ⟨j + 1, by omega, by go_num, HB2⟩
              case measure => simp [intOf]; omega
        · go_wp2_with fail
          go_roundw
          case rel => exact ⟨k + 1, by omega, by go_num, HB'⟩
          case measure => simp [intOf]; omega
    · go_wp2_with fail
      refine (HA _ _ _).out.mono ?_
      rintro e w2 ⟨rfl, hb⟩
      have HB2 := Lib.hid (below_then HB.out HB.out.size hb)
      clear hb
      go_wp2_with fail
      refine (HR _ _ _).out.mono ?_
      rintro e w3 ⟨rfl, rfl⟩
      go_wp2_with fail
      go_ret
      exact ⟨by simp, HB2.out⟩
end Go.Proofs.Yteakgeplefjncaa
