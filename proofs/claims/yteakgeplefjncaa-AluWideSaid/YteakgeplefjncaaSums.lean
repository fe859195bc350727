/- The walk of AluSums; of the reference's sum. -/
import Derived.Test.YteakgeplefjncaaLive
set_option linter.unusedVariables false
set_option linter.unusedSimpArgs false
namespace Go.Proofs.Yteakgeplefjncaa
open Go.RowKit

set_option maxRecDepth 100000 in
theorem ref_sum_calls (w : World) (x y : Int) (c : Bool) (hx : W32 x) (hy : W32 y) :
    Calls Try.prog 25 #[u x, u y, .bool c] w fun e w' => e = .returned (.tuple #[u (sum x y c).1, (sum x y c).2.val]) ∧ Below w.heap.size w w' := by
  have HX := fun w => Lib.hid (signed_calls w x hx)
  have HY := fun w => Lib.hid (signed_calls w y hy)
  have hw : W32 ((x + y + one? c) % 4294967296) := ⟨by omega, by omega⟩
  have HW := fun w => Lib.hid (signed_calls w _ hw)
  have sx : -2147483648 ≤ sgn x ∧ sgn x < 2147483648 := by obtain ⟨x0, x1⟩ := hx; unfold sgn; split <;> omega
  have sy : -2147483648 ≤ sgn y ∧ sgn y < 2147483648 := by obtain ⟨x0, x1⟩ := hy; unfold sgn; split <;> omega
  have hS : sum x y c = ((x + y + one? c) % 4294967296, ⟨decide (2147483648 ≤ (x + y + one? c) % 4294967296), (x + y + one? c) % 4294967296 == 0, decide (4294967296 ≤ x + y + one? c), sgn x + sgn y + one? c != sgn ((x + y + one? c) % 4294967296)⟩) := rfl
  obtain ⟨x0, x1⟩ := hx
  obtain ⟨y0, y1⟩ := hy
  have ex : wrap64 x = x := by unfold wrap64; omega
  have ey : wrap64 y = y := by unfold wrap64; omega
  have exy : wrap64 (x + y) = x + y := by unfold wrap64; omega
  obtain ⟨k, hk⟩ : ∃ k, one? c = k := ⟨_, rfl⟩
  have hk' : k = 0 ∨ k = 1 := by rw [← hk]; cases c <;> simp [one?]
  rw [hk] at hS HW
  have es : wrap64 (x + y + k) = x + y + k := by unfold wrap64; omega
  have et : Int.tmod (x + y + k) 4294967296 = (x + y + k) % 4294967296 := Int.tmod_eq_emod_of_nonneg (by omega)
  have em : (x + y + k) % 4294967296 % 4294967296 = (x + y + k) % 4294967296 := by omega
  generalize sgn x = a at *
  generalize sgn y = b at *
  have eab : wrap64 (a + b) = a + b := by unfold wrap64; omega
  have eabk : wrap64 (a + b + k) = a + b + k := by unfold wrap64; omega
  obtain ⟨W, hW⟩ : ∃ W, (x + y + k) % 4294967296 = W := ⟨_, rfl⟩
  rw [hW] at hS HW em et
  generalize sgn W = g at *
  have HS := Lib.hid hS
  clear hS hW sx sy x0 x1 y0 y1 hw
  rw [HS.out]
  rcases hk' with rfl | rfl
  · obtain rfl : c = false := by cases c <;> simp [one?] at hk ⊢
    simp only [Int.add_zero] at *
    go_enter Try.func25, Try.ntmps25
    go_wp2_with fail
    refine (HX _).out.mono ?_
    rintro e w1 ⟨rfl, rfl⟩
    go_wp2_with fail
    refine (HY _).out.mono ?_
    rintro e w1 ⟨rfl, rfl⟩
    go_wp2_with fail
    refine (HW _).out.mono ?_
    rintro e w1 ⟨rfl, rfl⟩
    go_wp2_with fail
    exact bodyPost_ret (v := .tuple #[u W, F.val ⟨decide (2147483648 ≤ W), W == 0, decide (4294967296 ≤ x + y), a + b != g⟩]) (by simp [results, Try.results25, go_sem, F.val]) rfl ⟨rfl, (Below.refl _ _).alloc (Nat.le_refl _) _⟩
  · obtain rfl : c = true := by cases c <;> simp [one?] at hk ⊢
    go_enter Try.func25, Try.ntmps25
    go_wp2_with fail
    refine (HX _).out.mono ?_
    rintro e w1 ⟨rfl, rfl⟩
    go_wp2_with fail
    refine (HY _).out.mono ?_
    rintro e w1 ⟨rfl, rfl⟩
    go_wp2_with fail
    refine (HW _).out.mono ?_
    rintro e w1 ⟨rfl, rfl⟩
    go_wp2_with fail
    exact bodyPost_ret (v := .tuple #[u W, F.val ⟨decide (2147483648 ≤ W), W == 0, decide (4294967296 ≤ x + y + 1), a + b + 1 != g⟩]) (by simp [results, Try.results25, go_sem, F.val]) rfl ⟨rfl, (Below.refl _ _).alloc (Nat.le_refl _) _⟩

/-- A box of flags behind a call that turns nothing old. -/
theorem fbox {w w' : World} {n z c v : Bool} (hb : Below (w.alloc (.cells #[.bool n, .bool z, .bool c, .bool v] 25)).heap.size (w.alloc (.cells #[.bool n, .bool z, .bool c, .bool v] 25)) w') :
    w.heap.size < w'.heap.size ∧ FB w' w.heap.size n z c v := by
  obtain ⟨a, b, _⟩ := newbox hb
  exact ⟨a, b 0 _ rfl, b 1 _ rfl, b 2 _ rfl, b 3 _ rfl⟩

set_option maxRecDepth 100000 in
theorem sums_core (w : World) (x y : Int) (c : Bool) (hx : W32 x) (hy : W32 y) :
    Calls Try.prog 5 #[u x, u y, .bool c] w fun e w' => e = .returned (.bool true) ∧ Below w.heap.size w w' := by
  have H1 := fun w => Lib.hid (sum_calls w x y c hx hy)
  have H2 := fun w => Lib.hid (ref_sum_calls w x y c hx hy)
  have H3 := fun w => Lib.hid (live_calls w)
  generalize sum x y c = m at *
  obtain ⟨r, ⟨n, z, cc, v⟩⟩ := m
  simp only [F.val] at H1 H2
  clear hx hy
  go_enter Try.func5, Try.ntmps5
  go_wp2_with fail
  refine (H1 _).out.mono ?_
  rintro e w1 ⟨rfl, hb1⟩
  have HB1 := Lib.hid hb1
  clear hb1
  go_wp2_with fail
  refine (H2 _).out.mono ?_
  rintro e w2 ⟨rfl, hb2⟩
  obtain ⟨s2, hf2⟩ := fbox hb2
  have HF2 := Lib.hid hf2
  have HB2 := Lib.hid (below_then HB1.out HB1.out.size (below_unalloc hb2))
  clear hb2 hf2
  go_wp2_with fail
  refine (H3 _).out.mono ?_
  rintro e w3 ⟨rfl, hb3⟩
  obtain ⟨s3, c0, c1, c2, c3⟩ := fbox hb3
  obtain ⟨d0, d1, d2, d3⟩ := fb_keep s2 (below_unalloc hb3) HF2.out
  have HB3 := Lib.hid (below_then HB2.out HB2.out.size (below_unalloc hb3))
  clear hb3
  go_wp2_with fail
  go_ret
  exact ⟨by simp, HB3.out⟩
end Go.Proofs.Yteakgeplefjncaa
