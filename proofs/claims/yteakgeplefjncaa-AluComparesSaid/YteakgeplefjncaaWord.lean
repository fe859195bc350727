/- The walks of Flags, Word and Decode. -/
import Derived.Test.YteakgeplefjncaaLeaf
import Derived.BigRegion
set_option linter.unusedVariables false
set_option linter.unusedSimpArgs false
namespace Go.Proofs.Yteakgeplefjncaa
open Go.RowKit

def flagsOf (x : Int) : F := ⟨x / 2147483648 % 2 == 1, x / 1073741824 % 2 == 1, x / 536870912 % 2 == 1, x / 268435456 % 2 == 1⟩
theorem flags_calls (w : World) (x : Int) (hx : W32 x) :
    Calls Try.prog 35 #[u x] w fun e w' => e = .returned (flagsOf x).val ∧ Below w.heap.size w w' := by
  obtain ⟨x0, x1⟩ := hx
  have e1 := and_u32_1 (x := x / 2147483648) ⟨by omega, by omega⟩
  have e2 := and_u32_1 (x := x / 1073741824) ⟨by omega, by omega⟩
  have e3 := and_u32_1 (x := x / 536870912) ⟨by omega, by omega⟩
  have e4 := and_u32_1 (x := x / 268435456) ⟨by omega, by omega⟩
  go_enter Try.func35, Try.ntmps35
  go_wp2_with fail
  exact bodyPost_ret (v := (flagsOf x).val) (by simp [results, Try.results35, go_sem, flagsOf, F.val, e1, e2, e3, e4]) rfl ⟨rfl, (Below.refl _ _).alloc (Nat.le_refl _) _⟩

def bi (b : Bool) (n : Int) : Int := if b then n else 0
/-- The flags as bits, the first k of them. -/
def wd (f : F) : Nat → Int
  | 0 => 0
  | 1 => bi f.v 268435456
  | 2 => bi f.v 268435456 + bi f.c 536870912
  | 3 => bi f.v 268435456 + bi f.c 536870912 + bi f.z 1073741824
  | _ => bi f.v 268435456 + bi f.c 536870912 + bi f.z 1073741824 + bi f.n 2147483648

set_option maxRecDepth 100000 in
set_option maxHeartbeats 1000000 in
theorem word_calls (w : World) (f : F) :
    Calls Try.prog 33 #[f.val] w fun e w' => e = .returned (u (wd f 4)) ∧ Below w.heap.size w w' := by
  obtain ⟨n, z, c, v⟩ := f
  have o0 : bits .or .u32 0 268435456 = 268435456 := by rw [or_comm_u32 ⟨by omega, by omega⟩ ⟨by omega, by omega⟩, or_u32 28 (by omega) (by decide) (by omega) (by omega) (by omega) (by omega)]; rfl
  have o1 : Hid (bits .or .u32 (wd ⟨n, z, c, v⟩ 1) 536870912 = wd ⟨n, z, c, v⟩ 1 + 536870912) := Lib.hid (by
    have : 0 ≤ wd ⟨n, z, c, v⟩ 1 ∧ wd ⟨n, z, c, v⟩ 1 < 536870912 := by cases v <;> simp [wd, bi]
    rw [or_comm_u32 ⟨by omega, by omega⟩ ⟨by omega, by omega⟩, or_u32 29 (by omega) (by decide) (by omega) (by omega) (by omega) (by omega)]; omega)
  have o2 : Hid (bits .or .u32 (wd ⟨n, z, c, v⟩ 2) 1073741824 = wd ⟨n, z, c, v⟩ 2 + 1073741824) := Lib.hid (by
    have : 0 ≤ wd ⟨n, z, c, v⟩ 2 ∧ wd ⟨n, z, c, v⟩ 2 < 1073741824 := by cases v <;> cases c <;> simp [wd, bi]
    rw [or_comm_u32 ⟨by omega, by omega⟩ ⟨by omega, by omega⟩, or_u32 30 (by omega) (by decide) (by omega) (by omega) (by omega) (by omega)]; omega)
  have o3 : Hid (bits .or .u32 (wd ⟨n, z, c, v⟩ 3) 2147483648 = wd ⟨n, z, c, v⟩ 3 + 2147483648) := Lib.hid (by
    have : 0 ≤ wd ⟨n, z, c, v⟩ 3 ∧ wd ⟨n, z, c, v⟩ 3 < 2147483648 := by cases v <;> cases c <;> cases z <;> simp [wd, bi]
    rw [or_comm_u32 ⟨by omega, by omega⟩ ⟨by omega, by omega⟩, or_u32 31 (by omega) (by decide) (by omega) (by omega) (by omega) (by omega)]; omega)
  have s0 : Hid (wd ⟨n, z, c, v⟩ 1 = bi v 268435456) := Lib.hid rfl
  have s1 : Hid (wd ⟨n, z, c, v⟩ 2 = wd ⟨n, z, c, v⟩ 1 + bi c 536870912) := Lib.hid rfl
  have s2 : Hid (wd ⟨n, z, c, v⟩ 3 = wd ⟨n, z, c, v⟩ 2 + bi z 1073741824) := Lib.hid rfl
  have s3 : Hid (wd ⟨n, z, c, v⟩ 4 = wd ⟨n, z, c, v⟩ 3 + bi n 2147483648) := Lib.hid rfl
  have sz : Hid (wd ⟨n, z, c, v⟩ 0 = 0) := Lib.hid rfl
  generalize wd ⟨n, z, c, v⟩ = W at *
  have hi0 : ∀ w', (Instr.index 75 (.agg #[.bool v, .bool c, .bool z, .bool n]) (.int .i64 0)).run Try.prog w' = .ok (.bool v) w' := fun _ => by kernel_rfl
  have hi1 : ∀ w', (Instr.index 75 (.agg #[.bool v, .bool c, .bool z, .bool n]) (.int .i64 1)).run Try.prog w' = .ok (.bool c) w' := fun _ => by kernel_rfl
  have hi2 : ∀ w', (Instr.index 75 (.agg #[.bool v, .bool c, .bool z, .bool n]) (.int .i64 2)).run Try.prog w' = .ok (.bool z) w' := fun _ => by kernel_rfl
  have hi3 : ∀ w', (Instr.index 75 (.agg #[.bool v, .bool c, .bool z, .bool n]) (.int .i64 3)).run Try.prog w' = .ok (.bool n) w' := fun _ => by kernel_rfl
  simp only [F.val]
  go_enter Try.func33, Try.ntmps33
  go_wp2_with fail
  go_loopw [3, 15] (fun a i wr => ∃ k : Int, (0 ≤ k ∧ k ≤ 4) ∧ i = .int .i64 k ∧ a = u (W k.toNat) ∧ wr = w.alloc (.cells #[.bool n, .bool z, .bool c, .bool v] 25)) (fun _ i _ => 4 - (intOf i).toNat)
  case atStart => exact ⟨0, by omega, rfl, by show _ = u (W 0); rw [sz.out], rfl⟩
  case round =>
    obtain ⟨k, hk, rfl, rfl, rfl⟩ := hrel
    rcases (show k = 0 ∨ k = 1 ∨ k = 2 ∨ k = 3 ∨ k = 4 by omega) with rfl | rfl | rfl | rfl | rfl
    · have e0 : u (W (Int.toNat 0)) = u 0 := by show u (W 0) = _; rw [sz.out]
      rw [e0]
      clear e0
      cases v with
      | true =>
        have e : Hid (W 1 = 268435456) := Lib.hid s0.out
        go_wp2_with fail
        go_roundw
        case rel => exact ⟨1, by omega, rfl, by show _ = u (W 1); rw [e.out]; try rfl, trivial⟩
        case measure => simp [intOf]
      | false =>
        have e : Hid (W 1 = 0) := Lib.hid s0.out
        go_wp2_with fail
        go_roundw
        case rel => exact ⟨1, by omega, rfl, by show _ = u (W 1); rw [e.out]; try rfl, trivial⟩
        case measure => simp [intOf]
    · cases c with
      | true =>
        have e : Hid (W 2 = bits .or .u32 (W 1) 536870912) := Lib.hid (by rw [o1.out, s1.out]; rfl)
        go_wp2_with fail
        go_roundw
        case rel => exact ⟨2, by omega, rfl, by show _ = u (W 2); rw [e.out]; try rfl, trivial⟩
        case measure => simp [intOf]
      | false =>
        have e : Hid (W 2 = W 1) := Lib.hid (by rw [s1.out]; simp [bi])
        go_wp2_with fail
        go_roundw
        case rel => exact ⟨2, by omega, rfl, by show _ = u (W 2); rw [e.out]; try rfl, trivial⟩
        case measure => simp [intOf]
    · cases z with
      | true =>
        have e : Hid (W 3 = bits .or .u32 (W 2) 1073741824) := Lib.hid (by rw [o2.out, s2.out]; rfl)
        go_wp2_with fail
        go_roundw
        case rel => exact ⟨3, by omega, rfl, by show _ = u (W 3); rw [e.out]; try rfl, trivial⟩
        case measure => simp [intOf]
      | false =>
        have e : Hid (W 3 = W 2) := Lib.hid (by rw [s2.out]; simp [bi])
        go_wp2_with fail
        go_roundw
        case rel => exact ⟨3, by omega, rfl, by show _ = u (W 3); rw [e.out]; try rfl, trivial⟩
        case measure => simp [intOf]
    · cases n with
      | true =>
        have e : Hid (W 4 = bits .or .u32 (W 3) 2147483648) := Lib.hid (by rw [o3.out, s3.out]; rfl)
        go_wp2_with fail
        go_roundw
        case rel => exact ⟨4, by omega, rfl, by show _ = u (W 4); rw [e.out]; try rfl, trivial⟩
        case measure => simp [intOf]
      | false =>
        have e : Hid (W 4 = W 3) := Lib.hid (by rw [s3.out]; simp [bi])
        go_wp2_with fail
        go_roundw
        case rel => exact ⟨4, by omega, rfl, by show _ = u (W 4); rw [e.out]; try rfl, trivial⟩
        case measure => simp [intOf]
    · go_wp2_with fail
      go_ret
      exact ⟨rfl, (Below.refl _ _).alloc (Nat.le_refl _) _⟩

/-- How a shift by a constant is meant. -/
def decode (k n : Int) : Int × Int :=
  if k < 0 ∨ 3 < k ∨ n < 0 ∨ 31 < n then (0, 0) else if 0 < n ∨ k = 0 then (k, n) else if k = 3 then (4, 1) else (k, 32)
def I2 (x : Int × Int) : Value := .tuple #[.int .i64 x.1, .int .i64 x.2]
set_option maxRecDepth 100000 in
theorem decode_calls (w : World) (k n : Int) :
    Calls Try.prog 40 #[.int .i64 k, .int .i64 n] w fun e w' => e = .returned (I2 (decode k n)) ∧ Below w.heap.size w w' := by
  by_cases h1 : k < 0
  · have HD : Hid (decode k n = (0, 0)) := Lib.hid (if_pos (.inl h1))
    go_enter Try.func40, Try.ntmps40
    go_wp2_with fail
    exact bodyPost_ret (v := I2 (0, 0)) (by simp [results, Try.results40, go_sem, I2]) rfl ⟨by rw [HD.out], Below.refl _ _⟩
  by_cases h2 : 3 < k
  · have HD : Hid (decode k n = (0, 0)) := Lib.hid (if_pos (.inr (.inl h2)))
    go_enter Try.func40, Try.ntmps40
    go_wp2_with fail
    exact bodyPost_ret (v := I2 (0, 0)) (by simp [results, Try.results40, go_sem, I2]) rfl ⟨by rw [HD.out], Below.refl _ _⟩
  by_cases h3 : n < 0
  · have HD : Hid (decode k n = (0, 0)) := Lib.hid (if_pos (.inr (.inr (.inl h3))))
    go_enter Try.func40, Try.ntmps40
    go_wp2_with fail
    exact bodyPost_ret (v := I2 (0, 0)) (by simp [results, Try.results40, go_sem, I2]) rfl ⟨by rw [HD.out], Below.refl _ _⟩
  by_cases h4 : 31 < n
  · have HD : Hid (decode k n = (0, 0)) := Lib.hid (if_pos (.inr (.inr (.inr h4))))
    go_enter Try.func40, Try.ntmps40
    go_wp2_with fail
    exact bodyPost_ret (v := I2 (0, 0)) (by simp [results, Try.results40, go_sem, I2]) rfl ⟨by rw [HD.out], Below.refl _ _⟩
  by_cases h5 : 0 < n
  · have HD : Hid (decode k n = (k, n)) := Lib.hid (by unfold decode; rw [if_neg (by omega), if_pos (by omega)])
    go_enter Try.func40, Try.ntmps40
    go_wp2_with fail
    exact bodyPost_ret (v := I2 (k, n)) (by simp [results, Try.results40, go_sem, I2]) rfl ⟨by rw [HD.out], Below.refl _ _⟩
  obtain rfl : n = 0 := by omega
  clear h3 h4 h5
  rcases (show k = 0 ∨ k = 1 ∨ k = 2 ∨ k = 3 by omega) with rfl | rfl | rfl | rfl
  all_goals
    clear h1 h2
    have ia : ∀ w', (Instr.index 76 (.agg #[.int .i64 0, .int .i64 1, .int .i64 2, .int .i64 4]) (.int .i64 0)).run Try.prog w' = .ok (.int .i64 0) w' := fun _ => by kernel_rfl
    have ib : ∀ w', (Instr.index 76 (.agg #[.int .i64 0, .int .i64 1, .int .i64 2, .int .i64 4]) (.int .i64 1)).run Try.prog w' = .ok (.int .i64 1) w' := fun _ => by kernel_rfl
    have ic : ∀ w', (Instr.index 76 (.agg #[.int .i64 0, .int .i64 1, .int .i64 2, .int .i64 4]) (.int .i64 2)).run Try.prog w' = .ok (.int .i64 2) w' := fun _ => by kernel_rfl
    have id' : ∀ w', (Instr.index 76 (.agg #[.int .i64 0, .int .i64 1, .int .i64 2, .int .i64 4]) (.int .i64 3)).run Try.prog w' = .ok (.int .i64 4) w' := fun _ => by kernel_rfl
    have ja : ∀ w', (Instr.index 76 (.agg #[.int .i64 0, .int .i64 32, .int .i64 32, .int .i64 1]) (.int .i64 0)).run Try.prog w' = .ok (.int .i64 0) w' := fun _ => by kernel_rfl
    have jb : ∀ w', (Instr.index 76 (.agg #[.int .i64 0, .int .i64 32, .int .i64 32, .int .i64 1]) (.int .i64 1)).run Try.prog w' = .ok (.int .i64 32) w' := fun _ => by kernel_rfl
    have jc : ∀ w', (Instr.index 76 (.agg #[.int .i64 0, .int .i64 32, .int .i64 32, .int .i64 1]) (.int .i64 2)).run Try.prog w' = .ok (.int .i64 32) w' := fun _ => by kernel_rfl
    have jd : ∀ w', (Instr.index 76 (.agg #[.int .i64 0, .int .i64 32, .int .i64 32, .int .i64 1]) (.int .i64 3)).run Try.prog w' = .ok (.int .i64 1) w' := fun _ => by kernel_rfl
    go_enter Try.func40, Try.ntmps40
    go_wp2_with fail
    go_quiet (fail)
    go_wp2_with fail
  · exact bodyPost_ret (v := I2 (0, 0)) (by simp [results, Try.results40, go_sem, I2]) rfl ⟨rfl, below_drewN (Below.refl _ _) _⟩
  · exact bodyPost_ret (v := I2 (1, 32)) (by simp [results, Try.results40, go_sem, I2]) rfl ⟨rfl, below_drewN (Below.refl _ _) _⟩
  · exact bodyPost_ret (v := I2 (2, 32)) (by simp [results, Try.results40, go_sem, I2]) rfl ⟨rfl, below_drewN (Below.refl _ _) _⟩
  · exact bodyPost_ret (v := I2 (4, 1)) (by simp [results, Try.results40, go_sem, I2]) rfl ⟨rfl, below_drewN (Below.refl _ _) _⟩
end Go.Proofs.Yteakgeplefjncaa
