/- The walk of AluPassed; of the reference's Flags and Passed. -/
import Derived.Test.YteakgeplefjncaaLive
set_option linter.unusedVariables false
set_option linter.unusedSimpArgs false
namespace Go.Proofs.Yteakgeplefjncaa
open Go.RowKit

/-- A box of flags behind a call that turns nothing old. -/
theorem fbox {w w' : World} {n z c v : Bool} (hb : Below (w.alloc (.cells #[.bool n, .bool z, .bool c, .bool v] 25)).heap.size (w.alloc (.cells #[.bool n, .bool z, .bool c, .bool v] 25)) w') :
    w.heap.size < w'.heap.size ∧ FB w' w.heap.size n z c v := by
  obtain ⟨a, b, _⟩ := newbox hb
  exact ⟨a, b 0 _ rfl, b 1 _ rfl, b 2 _ rfl, b 3 _ rfl⟩

set_option maxRecDepth 100000 in
theorem ref_flags_calls (w : World) (x : Int) (hx : W32 x) :
    Calls Try.prog 19 #[u x] w fun e w' => e = .returned (flagsOf x).val ∧ Below w.heap.size w w' := by
  have B31 := fun w => bit_calls w x 31 hx (by decide)
  have B30 := fun w => bit_calls w x 30 hx (by decide)
  have B29 := fun w => bit_calls w x 29 hx (by decide)
  have B28 := fun w => bit_calls w x 28 hx (by decide)
  simp only [Int.reducePow, Int.cast_ofNat_Int] at B31 B30 B29 B28
  have B31 := fun w => Lib.hid (B31 w)
  have B30 := fun w => Lib.hid (B30 w)
  have B29 := fun w => Lib.hid (B29 w)
  have B28 := fun w => Lib.hid (B28 w)
  unfold flagsOf
  generalize (x / 2147483648 % 2 == 1) = n at *
  generalize (x / 1073741824 % 2 == 1) = z at *
  generalize (x / 536870912 % 2 == 1) = c at *
  generalize (x / 268435456 % 2 == 1) = v at *
  clear hx
  go_enter Try.func19, Try.ntmps19
  go_wp2_with fail
  refine (B31 _).out.mono ?_
  rintro e w1 ⟨rfl, rfl⟩
  go_wp2_with fail
  refine (B30 _).out.mono ?_
  rintro e w1 ⟨rfl, rfl⟩
  go_wp2_with fail
  refine (B29 _).out.mono ?_
  rintro e w1 ⟨rfl, rfl⟩
  go_wp2_with fail
  refine (B28 _).out.mono ?_
  rintro e w1 ⟨rfl, rfl⟩
  go_wp2_with fail
  exact bodyPost_ret (v := F.val ⟨n, z, c, v⟩) (by simp [results, Try.results19, go_sem, F.val]) rfl ⟨rfl, (Below.refl _ _).alloc (Nat.le_refl _) _⟩

set_option maxRecDepth 100000 in
set_option maxHeartbeats 2000000 in
theorem ref_passed_calls (w : World) (c : Int) (f : F) :
    Calls Try.prog 21 #[.int .i64 c, f.val] w fun e w' => e = .returned (.bool (passed c f)) ∧ Below w.heap.size w w' := by
  obtain ⟨n, z, cc, v⟩ := f
  rcases (show c = 0 ∨ c = 1 ∨ c = 2 ∨ c = 3 ∨ c = 4 ∨ c = 5 ∨ c = 6 ∨ c = 7 ∨ c = 8 ∨ c = 9 ∨ c = 10 ∨ c = 11 ∨ c = 12 ∨ c = 13 ∨ c = 14 ∨ (c < 0 ∨ 14 < c) by omega) with rfl | rfl | rfl | rfl | rfl | rfl | rfl | rfl | rfl | rfl | rfl | rfl | rfl | rfl | rfl | h
  case inr.inr.inr.inr.inr.inr.inr.inr.inr.inr.inr.inr.inr.inr.inr =>
    have n0 : ¬ c = 0 := by omega
    have n1 : ¬ c = 1 := by omega
    have n2 : ¬ c = 2 := by omega
    have n3 : ¬ c = 3 := by omega
    have n4 : ¬ c = 4 := by omega
    have n5 : ¬ c = 5 := by omega
    have n6 : ¬ c = 6 := by omega
    have n7 : ¬ c = 7 := by omega
    have n8 : ¬ c = 8 := by omega
    have n9 : ¬ c = 9 := by omega
    have n10 : ¬ c = 10 := by omega
    have n11 : ¬ c = 11 := by omega
    have n12 : ¬ c = 12 := by omega
    have n13 : ¬ c = 13 := by omega
    have n14 : ¬ c = 14 := by omega
    have n15 : (c == 14) = false := by simp; omega
    have e : passed c ⟨n, z, cc, v⟩ = false := by simp [passed, n0, n1, n2, n3, n4, n5, n6, n7, n8, n9, n10, n11, n12, n13, n14]
    rw [e]
    clear h e
    simp only [F.val]
    go_enter Try.func21, Try.ntmps21
    go_wp2_with fail
    go_ret
    refine ⟨?_, (Below.refl _ _).alloc (Nat.le_refl _) _⟩
    first | rfl | (simp [go_sem, n15])
  all_goals
    simp only [F.val]
    go_enter Try.func21, Try.ntmps21
    go_wp2_with fail
  all_goals
    go_ret
    refine ⟨?_, (Below.refl _ _).alloc (Nat.le_refl _) _⟩
    cases n <;> cases z <;> cases cc <;> cases v <;> first | rfl | contradiction

set_option maxRecDepth 100000 in
set_option maxHeartbeats 4000000 in
theorem passed_core (w : World) (c0 : Int) :
    Calls Try.prog 3 #[.int .i64 c0] w fun e w' => e = .returned (.bool true) ∧ Below w.heap.size w w' := by
  have HL := fun w => Lib.hid (live_calls w)
  have HF := fun w x hx => Lib.hid (ref_flags_calls w x hx)
  have HP := fun w c n z cc v => Lib.hid (passed_calls w c ⟨n, z, cc, v⟩)
  have HR := fun w c n z cc v => Lib.hid (ref_passed_calls w c ⟨n, z, cc, v⟩)
  simp only [F.val] at HP HR
  generalize passed = s at *
  go_enter Try.func3, Try.ntmps3
  go_wp2_with fail
  refine (HL _).out.mono ?_
  rintro e w1 ⟨rfl, hb1⟩
  have HB1 := Lib.hid hb1
  clear hb1
  go_wp2_with fail
  go_loopw [3] (fun i wr => ∃ k : Int, (-1 ≤ k ∧ k ≤ 17) ∧ i = .int .i64 k ∧ Hid (Below w.heap.size w wr)) (fun i _ => (17 - intOf i).toNat)
  case atStart => exact ⟨-1, by omega, rfl, HB1⟩
  case round =>
    obtain ⟨k, hk, rfl, HB⟩ := hrel
    clear HB1
    by_cases hk6 : k < 17
    · go_wp2_with fail
      go_loopw [4] (fun i wr => ∃ j : Int, (0 ≤ j ∧ j ≤ 16) ∧ i = .int .u32 j ∧ Hid (Below w.heap.size w wr)) (fun i _ => (16 - intOf i).toNat)
      case atStart => exact ⟨0, by omega, rfl, HB⟩
      case round =>
        obtain ⟨j, hj, rfl, HB'⟩ := hrel
        clear HB
        by_cases hj9 : j < 16
        · have e1 : j * 268435456 % 4294967296 = j * 268435456 := by omega
          have HF := fun w => HF w (j * 268435456) ⟨by omega, by omega⟩
          obtain ⟨⟨n, z, cc, v⟩, hf⟩ : ∃ f, flagsOf (j * 268435456) = f := ⟨_, rfl⟩
          rw [hf] at HF
          simp only [F.val] at HF
          clear hf
          go_wp2_with fail
          refine (HF _).out.mono ?_
          rintro e w2 ⟨rfl, hb⟩
          have HB2 := Lib.hid (below_then HB'.out HB'.out.size hb)
          clear hb
          go_upto_region 10 with fail
          have hbox := fb_alloc w2 n z cc v
          have hB3 := HB2.out.alloc HB2.out.size (.cells #[.bool n, .bool z, .bool cc, .bool v] 25)
          have hlt : w2.heap.size < (w2.alloc (.cells #[.bool n, .bool z, .bool cc, .bool v] 25)).heap.size := by simp
          generalize w2.alloc (.cells #[.bool n, .bool z, .bool cc, .bool v] 25) = w3 at *
          generalize w2.heap.size = q at *
          have HB3 := Lib.hid hB3
          clear HB2 hB3 HB'
          obtain ⟨d0, d1, d2, d3⟩ := hbox
          go_cut [34] from 19 to 34 (fun x wx => x = .bool false ∧ Hid (Below w.heap.size w wx))
          case first =>
            go_region_held3 (fun w' => w'.cell? ⟨q, 0, none⟩ = some (.bool n) ∧ w'.cell? ⟨q, 1, none⟩ = some (.bool z) ∧ w'.cell? ⟨q, 2, none⟩ = some (.bool cc) ∧ w'.cell? ⟨q, 3, none⟩ = some (.bool v))
              (first | exact ⟨d0, d1, d2, d3⟩ | exact box4 hlt hg.out ⟨d0, d1, d2, d3⟩ | fail)
              (first
                | (go_simp; go_at_call 20; refine (HP _ _ _ _ _ _).out.mono ?_; rintro e w4 ⟨rfl, hb4⟩; have hg : Hid (Below w3.heap.size w3 w4) := (by first | exact Lib.hid (below_undrew hb4) | exact Lib.hid (below_then hg.out hg.out.size hb4) | fail); clear hb4; go_simp)
                | (go_simp; go_at_call 21; refine (HR _ _ _ _ _ _).out.mono ?_; rintro e w4 ⟨rfl, hb4⟩; have hg : Hid (Below w3.heap.size w3 w4) := (by first | exact Lib.hid (below_undrew hb4) | exact Lib.hid (below_then hg.out hg.out.size hb4) | fail); clear hb4; go_simp))
            go_wp2_with fail
            go_meet
            exact ⟨rfl, Lib.hid (below_then HB3.out HB3.out.size hg.out)⟩
          case rest =>
            obtain ⟨rfl, HB4⟩ := hcut
            go_wp2_with fail
            go_roundw
            case rel => exact ⟨j + 1, by omega, by go_num, HB4⟩
            case measure => simp [intOf]; omega
        · go_wp2_with fail
          go_roundw
          case rel => exact ⟨k + 1, by omega, by go_num, HB'⟩
          case measure => simp [intOf]; omega
    · go_wp2_with fail
      go_ret
      exact ⟨rfl, HB.out⟩
end Go.Proofs.Yteakgeplefjncaa
