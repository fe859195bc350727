/- The walks of the sums: the program's and the reference's; and of Passed, both. -/
import Derived.Test.YteakgeplefjncaaLeaf
set_option linter.unusedVariables false
set_option linter.unusedSimpArgs false
namespace Go.Proofs.Yteakgeplefjncaa
open Go.RowKit

theorem xor_w {x y : Int} (hx : W32 x) (hy : W32 y) : W32 (bits .xor .u32 x y) ∧ bits .xor .u32 x y / 2147483648 = (x / 2147483648 + y / 2147483648) % 2 := by
  obtain ⟨a, rfl⟩ := Int.eq_ofNat_of_zero_le hx.1
  obtain ⟨b, rfl⟩ := Int.eq_ofNat_of_zero_le hy.1
  have ha : a < 2 ^ 32 := by have := hx.2; omega
  have hb : b < 2 ^ 32 := by have := hy.2; omega
  rw [xor_nat a b ha hb]
  have h1 := Nat.xor_lt_two_pow ha hb
  have h2 : (a ^^^ b) / 2 ^ 31 = (a / 2 ^ 31 + b / 2 ^ 31) % 2 := by
    rw [← Nat.shiftRight_eq_div_pow, Nat.shiftRight_xor_distrib, Nat.shiftRight_eq_div_pow, Nat.shiftRight_eq_div_pow]
    rcases (show a / 2 ^ 31 = 0 ∨ a / 2 ^ 31 = 1 by omega) with e | e <;> rcases (show b / 2 ^ 31 = 0 ∨ b / 2 ^ 31 = 1 by omega) with f | f <;> rw [e, f] <;> rfl
  refine ⟨⟨by omega, by omega⟩, by omega⟩
theorem and_w {x y : Int} (hx : W32 x) (hy : W32 y) : W32 (bits .and .u32 x y) ∧ bits .and .u32 x y / 2147483648 = (x / 2147483648) * (y / 2147483648) := by
  obtain ⟨a, rfl⟩ := Int.eq_ofNat_of_zero_le hx.1
  obtain ⟨b, rfl⟩ := Int.eq_ofNat_of_zero_le hy.1
  have ha : a < 2 ^ 32 := by have := hx.2; omega
  have hb : b < 2 ^ 32 := by have := hy.2; omega
  rw [and_nat a b ha hb]
  have h1 := Nat.and_lt_two_pow a hb
  have h2 : (a &&& b) / 2 ^ 31 = (a / 2 ^ 31) * (b / 2 ^ 31) := by
    rw [← Nat.shiftRight_eq_div_pow, Nat.shiftRight_and_distrib, Nat.shiftRight_eq_div_pow, Nat.shiftRight_eq_div_pow]
    rcases (show a / 2 ^ 31 = 0 ∨ a / 2 ^ 31 = 1 by omega) with e | e <;> rcases (show b / 2 ^ 31 = 0 ∨ b / 2 ^ 31 = 1 by omega) with f | f <;> rw [e, f] <;> rfl
  refine ⟨⟨by omega, by omega⟩, ?_⟩
  have h3 : (((a &&& b) / 2 ^ 31 : Nat) : Int) = ((a / 2 ^ 31) * (b / 2 ^ 31) : Nat) := by rw [h2]
  simpa using h3
/-- The sign's change as the program finds it. -/
theorem over {x y : Int} (hx : W32 x) (hy : W32 y) (c : Bool) :
    (bits .and .u32 (bits .xor .u32 x ((x + y + one? c) % 4294967296)) (bits .xor .u32 y ((x + y + one? c) % 4294967296)) / 2147483648 == 1)
      = (sgn x + sgn y + one? c != sgn ((x + y + one? c) % 4294967296)) := by
  obtain ⟨w, hw⟩ : ∃ w, (x + y + one? c) % 4294967296 = w := ⟨_, rfl⟩
  have hc : one? c = 0 ∨ one? c = 1 := by cases c <;> simp [one?]
  generalize one? c = k at *
  rw [hw]
  have w32 : W32 w := ⟨by omega, by omega⟩
  have a := xor_w hx w32
  have b := xor_w hy w32
  rw [(and_w a.1 b.1).2, a.2, b.2]
  obtain ⟨x0, x1⟩ := hx
  obtain ⟨y0, y1⟩ := hy
  obtain ⟨w0, w1⟩ := w32
  rw [Bool.eq_iff_iff]
  simp only [beq_iff_eq, bne_iff_ne, ne_eq]
  unfold sgn
  rcases (show x / 2147483648 = 0 ∨ x / 2147483648 = 1 by omega) with e | e <;> rcases (show y / 2147483648 = 0 ∨ y / 2147483648 = 1 by omega) with f | f <;> rcases (show w / 2147483648 = 0 ∨ w / 2147483648 = 1 by omega) with g | g <;>
    rw [e, f, g] <;> simp <;> split <;> split <;> split <;> omega

theorem sum_calls (w : World) (x y : Int) (c : Bool) (hx : W32 x) (hy : W32 y) :
    Calls Try.prog 24 #[u x, u y, .bool c] w fun e w' => e = .returned (.tuple #[u (sum x y c).1, (sum x y c).2.val]) ∧ Below w.heap.size w w' := by
  have hc : W32 (one? c) := by cases c <;> simp [one?, W32]
  have HA := fun w => (add32_calls w x y (one? c) hx hy hc)
  have hw : W32 ((x + y + one? c) % 4294967296) := ⟨by omega, by omega⟩
  have HO := (over hx hy c)
  have HC : (((x + y + one? c) / 4294967296 == 1) = decide (4294967296 ≤ x + y + one? c)) := by
    obtain ⟨x0, x1⟩ := hx
    obtain ⟨y0, y1⟩ := hy
    have : one? c = 0 ∨ one? c = 1 := by cases c <;> simp [one?]
    rw [Bool.eq_iff_iff]; simp; omega
  have HM := fun w c v => Lib.hid (marks_calls w _ c v hw)
  have HR : Hid (sum x y c = ((x + y + one? c) % 4294967296, marks ((x + y + one? c) % 4294967296) (decide (4294967296 ≤ x + y + one? c)) (sgn x + sgn y + one? c != sgn ((x + y + one? c) % 4294967296)))) := Lib.hid rfl
  rw [← HC, ← HO] at HR
  generalize (x + y + one? c) % 4294967296 = r at *
  generalize (x + y + one? c) / 4294967296 = q at *
  clear HO HC hw hc
  have HA := fun w => Lib.hid (HA w)
  have H : ∀ k w, k = one? c → Hid (Calls Try.prog 45 #[u x, u y, u k] w fun e w' => e = .returned (.tuple #[u r, u q]) ∧ w' = w) := fun k w e => e ▸ HA w
  clear HA
  have HM := fun w => HM w (q == 1) (bits BinOp.and IntKind.u32 (bits BinOp.xor IntKind.u32 x r) (bits BinOp.xor IntKind.u32 y r) / 2147483648 == 1)
  generalize marks r (q == 1) (bits BinOp.and IntKind.u32 (bits BinOp.xor IntKind.u32 x r) (bits BinOp.xor IntKind.u32 y r) / 2147483648 == 1) = m at *
  obtain ⟨mn, mz, mc, mv⟩ := m
  simp only [F.val] at HM
  cases c with
  | false =>
    have HA := fun w => H 0 w rfl
    clear H
    go_enter Try.func24, Try.ntmps24
    go_wp2_with fail
    refine (HA _).out.mono ?_
    rintro e w' ⟨rfl, rfl⟩
    go_wp2_with fail
    refine (HM _).out.mono ?_
    rintro e w2 ⟨rfl, hb⟩
    obtain ⟨hz, hcc, hf⟩ := newbox hb
    have d0 := hcc 0 (.bool false) rfl
    have d1 := hcc 1 (.bool false) rfl
    have d2 := hcc 2 (.bool false) rfl
    have d3 := hcc 3 (.bool false) rfl
    have f0 := hf 0
    have f1 := hf 1
    have f2 := hf 2
    have f3 := hf 3
    have HB := Lib.hid hb
    clear hb hcc hf
    go_wp2_with fail
    rw [HR.out]
    refine bodyPost_ret (v := .tuple #[u r, F.val ⟨mn, mz, mc, mv⟩]) (by simp [results, Try.results24, go_sem, F.val, d0, d1, d2, d3]) rfl ⟨rfl, ?_⟩
    have h1 := HB.out.mono (B' := w.heap.size) (by simp)
    exact ((((Below.trans ((Below.refl _ w).alloc (Nat.le_refl _) _) h1).setCell (Nat.le_refl _) _).setCell (Nat.le_refl _) _).setCell (Nat.le_refl _) _).setCell (Nat.le_refl _) _
  | true =>
    have HA := fun w => H 1 w rfl
    clear H
    go_enter Try.func24, Try.ntmps24
    go_wp2_with fail
    refine (HA _).out.mono ?_
    rintro e w' ⟨rfl, rfl⟩
    go_wp2_with fail
    refine (HM _).out.mono ?_
    rintro e w2 ⟨rfl, hb⟩
    obtain ⟨hz, hcc, hf⟩ := newbox hb
    have d0 := hcc 0 (.bool false) rfl
    have d1 := hcc 1 (.bool false) rfl
    have d2 := hcc 2 (.bool false) rfl
    have d3 := hcc 3 (.bool false) rfl
    have f0 := hf 0
    have f1 := hf 1
    have f2 := hf 2
    have f3 := hf 3
    have HB := Lib.hid hb
    clear hb hcc hf
    go_wp2_with fail
    rw [HR.out]
    refine bodyPost_ret (v := .tuple #[u r, F.val ⟨mn, mz, mc, mv⟩]) (by simp [results, Try.results24, go_sem, F.val, d0, d1, d2, d3]) rfl ⟨rfl, ?_⟩
    have h1 := HB.out.mono (B' := w.heap.size) (by simp)
    exact ((((Below.trans ((Below.refl _ w).alloc (Nat.le_refl _) _) h1).setCell (Nat.le_refl _) _).setCell (Nat.le_refl _) _).setCell (Nat.le_refl _) _).setCell (Nat.le_refl _) _

set_option maxRecDepth 100000 in
theorem passed_calls (w : World) (c : Int) (f : F) :
    Calls Try.prog 20 #[.int .i64 c, f.val] w fun e w' => e = .returned (.bool (passed c f)) ∧ Below w.heap.size w w' := by
  obtain ⟨n, z, cc, v⟩ := f
  have b0 : bits .and .i64 0 1 = 0 := and_i64_1 0
  have b1 : bits .and .i64 1 1 = 1 := and_i64_1 1
  have b2 : bits .and .i64 2 1 = 0 := and_i64_1 2
  have b3 : bits .and .i64 3 1 = 1 := and_i64_1 3
  have b4 : bits .and .i64 4 1 = 0 := and_i64_1 4
  have b5 : bits .and .i64 5 1 = 1 := and_i64_1 5
  have b6 : bits .and .i64 6 1 = 0 := and_i64_1 6
  have b7 : bits .and .i64 7 1 = 1 := and_i64_1 7
  have b8 : bits .and .i64 8 1 = 0 := and_i64_1 8
  have b9 : bits .and .i64 9 1 = 1 := and_i64_1 9
  have b10 : bits .and .i64 10 1 = 0 := and_i64_1 10
  have b11 : bits .and .i64 11 1 = 1 := and_i64_1 11
  have b12 : bits .and .i64 12 1 = 0 := and_i64_1 12
  have b13 : bits .and .i64 13 1 = 1 := and_i64_1 13
  rcases (show c = 0 ∨ c = 1 ∨ c = 2 ∨ c = 3 ∨ c = 4 ∨ c = 5 ∨ c = 6 ∨ c = 7 ∨ c = 8 ∨ c = 9 ∨ c = 10 ∨ c = 11 ∨ c = 12 ∨ c = 13 ∨ c = 14 ∨ (c < 0 ∨ 14 < c) by omega) with rfl | rfl | rfl | rfl | rfl | rfl | rfl | rfl | rfl | rfl | rfl | rfl | rfl | rfl | rfl | h
  case inr.inr.inr.inr.inr.inr.inr.inr.inr.inr.inr.inr.inr.inr.inr =>
    have n0 : ¬ c = 0 := by omega
    have n1 : ¬ c = 1 := by omega
    have n2 : ¬ c = 2 := by omega
    have n3 : ¬ c = 3 := by omega
    have n4 : ¬ c = 4 := by omega
    have n5 : ¬ c = 5 := by omega
    have n6 : ¬ c = 6 := by omega
    have n7 : ¬ c = 7 := by omega
    have n8 : ¬ c = 8 := by omega
    have n9 : ¬ c = 9 := by omega
    have n10 : ¬ c = 10 := by omega
    have n11 : ¬ c = 11 := by omega
    have n12 : ¬ c = 12 := by omega
    have n13 : ¬ c = 13 := by omega
    have n14 : ¬ c = 14 := by omega
    have e : passed c ⟨n, z, cc, v⟩ = false := by simp [passed, n0, n1, n2, n3, n4, n5, n6, n7, n8, n9, n10, n11, n12, n13, n14]
    rw [e]
    clear h e
    simp only [F.val]
    go_enter Try.func20, Try.ntmps20
    go_wp2_with fail
    go_ret
    exact ⟨rfl, (Below.refl _ _).alloc (Nat.le_refl _) _⟩
  all_goals
    simp only [F.val]
    go_enter Try.func20, Try.ntmps20
    go_wp2_with fail
  all_goals
    go_ret
    refine ⟨?_, (Below.refl _ _).alloc (Nat.le_refl _) _⟩
    cases n <;> cases z <;> cases cc <;> cases v <;> first | rfl | contradiction
end Go.Proofs.Yteakgeplefjncaa
