/- The walks of the products: the program's. -/
import Derived.Test.YteakgeplefjncaaLeaf
set_option linter.unusedVariables false
set_option linter.unusedSimpArgs false
namespace Go.Proofs.Yteakgeplefjncaa
open Go.RowKit

def two (q : Int) : Int × Int × Bool := (q / 4294967296, q % 4294967296, true)
def long (op a b h l : Int) : Int × Int × Bool :=
  if op = 19 then (0, (a * b) % 4294967296, true)
  else if op = 20 then (0, (a * b + l) % 4294967296, true)
  else if op = 21 then two (a * b)
  else if op = 22 then two ((a * b + (h * 4294967296 + l)) % 18446744073709551616)
  else if op = 23 then two (sgn a * sgn b % 18446744073709551616)
  else if op = 24 then two ((sgn a * sgn b + (h * 4294967296 + l)) % 18446744073709551616)
  else (0, 0, false)
def L3 (x : Int × Int × Bool) : Value := .tuple #[u x.1, u x.2.1, .bool x.2.2]

theorem mul_bound {a b : Int} (ha : W32 a) (hb : W32 b) : 0 ≤ a * b ∧ a * b < 18446744073709551616 := by
  obtain ⟨a0, a1⟩ := ha
  obtain ⟨b0, b1⟩ := hb
  refine ⟨Int.mul_nonneg a0 b0, ?_⟩
  have h1 : a * b ≤ 4294967295 * b := Int.mul_le_mul_of_nonneg_right (by omega) b0
  omega
theorem sgn_bound {a b : Int} (ha : W32 a) (hb : W32 b) : -4611686018427387904 ≤ sgn a * sgn b ∧ sgn a * sgn b ≤ 4611686018427387904 := by
  have hs : ∀ {x : Int}, W32 x → -2147483648 ≤ sgn x ∧ sgn x ≤ 2147483647 := fun h => by obtain ⟨h0, h1⟩ := h; unfold sgn; split <;> omega
  obtain ⟨x0, x1⟩ := hs ha
  obtain ⟨y0, y1⟩ := hs hb
  generalize sgn a = x at *
  generalize sgn b = y at *
  rcases (show 0 ≤ x ∨ x ≤ 0 by omega) with hx | hx <;> rcases (show 0 ≤ y ∨ y ≤ 0 by omega) with hy | hy
  · have h1 := Int.mul_nonneg hx hy
    have h2 : x * y ≤ 2147483648 * y := Int.mul_le_mul_of_nonneg_right (by omega) hy
    omega
  · have h1 : x * y ≤ 0 := Int.mul_nonpos_of_nonneg_of_nonpos hx hy
    have h2 : 2147483648 * y ≤ x * y := Int.mul_le_mul_of_nonpos_right (by omega) hy
    omega
  · have h1 : x * y ≤ 0 := Int.mul_nonpos_of_nonpos_of_nonneg hx hy
    have h2 : -2147483648 * y ≤ x * y := Int.mul_le_mul_of_nonneg_right (by omega) hy
    omega
  · have h1 : 0 ≤ x * y := Int.mul_nonneg_of_nonpos_of_nonpos hx hy
    have h2 : x * y ≤ -2147483648 * y := Int.mul_le_mul_of_nonpos_right (by omega) hy
    omega

set_option maxRecDepth 100000 in
set_option maxHeartbeats 1000000 in
theorem long_calls (w : World) (op a b h l : Int) (ha : W32 a) (hb : W32 b) (hh : W32 h) (hl : W32 l) :
    Calls Try.prog 28 #[.int .i64 op, u a, u b, u h, u l] w fun e w' => e = .returned (L3 (long op a b h l)) ∧ w' = w := by
  obtain ⟨p0, p1⟩ := mul_bound ha hb
  obtain ⟨s0, s1⟩ := sgn_bound ha hb
  have e5 : wrap32 a = sgn a := by obtain ⟨x0, x1⟩ := ha; unfold wrap32 sgn; split <;> omega
  have e6 : wrap32 b = sgn b := by obtain ⟨x0, x1⟩ := hb; unfold wrap32 sgn; split <;> omega
  have e7 : wrap64 (sgn a) = sgn a := by obtain ⟨x0, x1⟩ := ha; unfold wrap64 sgn; split <;> omega
  have e8 : wrap64 (sgn b) = sgn b := by obtain ⟨x0, x1⟩ := hb; unfold wrap64 sgn; split <;> omega
  have e9 : wrap64 (sgn a * sgn b) = sgn a * sgn b := by unfold wrap64; omega
  have hL : Hid (long op a b h l = long op a b h l) := Lib.hid rfl
  have hlong : ∀ P S H, P = a * b → S = sgn a * sgn b → H = h * 4294967296 + l → long op a b h l =
      if op = 19 then (0, P % 4294967296, true) else if op = 20 then (0, (P + l) % 4294967296, true) else if op = 21 then two P
      else if op = 22 then two ((P + H) % 18446744073709551616) else if op = 23 then two (S % 18446744073709551616) else if op = 24 then two ((S + H) % 18446744073709551616) else (0, 0, false) := fun P S H h1 h2 h3 => by rw [h1, h2, h3]; rfl
  have ea : IntKind.u64.wrap a = a := by obtain ⟨x0, x1⟩ := ha; rw [wrap_u64]; omega
  have eb : IntKind.u64.wrap b = b := by obtain ⟨x0, x1⟩ := hb; rw [wrap_u64]; omega
  have eh : IntKind.u64.wrap h = h := by obtain ⟨x0, x1⟩ := hh; rw [wrap_u64]; omega
  have el : IntKind.u64.wrap l = l := by obtain ⟨x0, x1⟩ := hl; rw [wrap_u64]; omega
  obtain ⟨h0, h1⟩ := hh
  obtain ⟨l0, l1⟩ := hl
  have ehh : IntKind.u64.wrap (h * 4294967296) = h * 4294967296 := by rw [wrap_u64]; omega
  obtain ⟨H, hH⟩ : ∃ H, h * 4294967296 + l = H := ⟨_, rfl⟩
  have eor : bits .or .u64 (h * 4294967296) l = H := by rw [or_u64 32 (by omega) (by omega) (by omega) (by omega) (by omega) (by omega)]; exact hH
  have hHb : 0 ≤ H ∧ H < 18446744073709551616 := by omega
  obtain ⟨S, hS⟩ : ∃ S, sgn a * sgn b = S := ⟨_, rfl⟩
  obtain ⟨P, hP⟩ : ∃ P, a * b = P := ⟨_, rfl⟩
  have HL := Lib.hid (hlong P S H hP.symm hS.symm hH.symm)
  rw [hS] at e9 s0 s1
  rw [hP] at p0 p1
  have eP : IntKind.u64.wrap P = P := by rw [wrap_u64]; omega
  have eP3 : IntKind.u64.wrap (P % 4294967296) = P % 4294967296 := by rw [wrap_u64]; omega
  have eP4 : IntKind.u64.wrap ((P % 4294967296 + l) % 4294967296) = (P + l) % 4294967296 := by rw [wrap_u64]; omega
  obtain ⟨T, hT⟩ : ∃ T, S % 18446744073709551616 = T := ⟨_, rfl⟩
  have eT : IntKind.u64.wrap S = T := by rw [wrap_u64]; exact hT
  have ePH : IntKind.u64.wrap (P + H) = (P + H) % 18446744073709551616 := wrap_u64 _
  have eTH : IntKind.u64.wrap (T + H) = (S + H) % 18446744073709551616 := by rw [wrap_u64]; omega
  clear hL hlong ha hb hH
  have q1 : ∀ x : Int, x % 18446744073709551616 / 4294967296 % 4294967296 = x % 18446744073709551616 / 4294967296 := fun x => by omega
  have q2 : P / 4294967296 % 4294967296 = P / 4294967296 := by omega
  have q3 : P % 4294967296 / 4294967296 = 0 := by omega
  have q4 : (P + l) % 4294967296 / 4294967296 = 0 := by omega
  have q5 : P % 4294967296 % 4294967296 = P % 4294967296 := by omega
  have q6 : (P + l) % 4294967296 % 4294967296 = (P + l) % 4294967296 := by omega
  have q7 : T / 4294967296 % 4294967296 = T / 4294967296 := by omega
  have HT := Lib.hid hT
  clear p0 p1 s0 s1 h0 h1 l0 l1 hHb hT
  rw [HL.out]
  rcases (show op = 19 ∨ op = 20 ∨ op = 21 ∨ op = 22 ∨ op = 23 ∨ op = 24 ∨ (¬ op = 19 ∧ ¬ op = 20 ∧ ¬ op = 21 ∧ ¬ op = 22 ∧ ¬ op = 23 ∧ ¬ op = 24) by omega) with rfl | rfl | rfl | rfl | rfl | rfl | ⟨k0, k1, k2, k3, k4, k5⟩
  · rw [if_pos rfl]
    go_enter Try.func28, Try.ntmps28
    go_wp2_with fail
    exact bodyPost_ret (v := L3 (0, P % 4294967296, true)) (by simp [results, Try.results28, go_sem, L3, hP, eP, eP3, q3, q5]) rfl ⟨rfl, rfl⟩
  · rw [if_neg (by decide), if_pos rfl]
    go_enter Try.func28, Try.ntmps28
    go_wp2_with fail
    exact bodyPost_ret (v := L3 (0, (P + l) % 4294967296, true)) (by simp [results, Try.results28, go_sem, L3, hP, eP, eP4, q4, q6]) rfl ⟨rfl, rfl⟩
  · rw [if_neg (by decide), if_neg (by decide), if_pos rfl]
    go_enter Try.func28, Try.ntmps28
    go_wp2_with fail
    exact bodyPost_ret (v := L3 (two P)) (by simp [results, Try.results28, go_sem, L3, two, hP, eP, q2]) rfl ⟨rfl, rfl⟩
  · rw [if_neg (by decide), if_neg (by decide), if_neg (by decide), if_pos rfl]
    go_enter Try.func28, Try.ntmps28
    go_wp2_with fail
    exact bodyPost_ret (v := L3 (two ((P + H) % 18446744073709551616))) (by simp [results, Try.results28, go_sem, L3, two, hP, eP, eor, ehh, ePH, q1]) rfl ⟨rfl, rfl⟩
  · rw [if_neg (by decide), if_neg (by decide), if_neg (by decide), if_neg (by decide), if_pos rfl, HT.out]
    go_enter Try.func28, Try.ntmps28
    go_wp2_with fail
    exact bodyPost_ret (v := L3 (two T)) (by simp [results, Try.results28, go_sem, L3, two, hS, e9, eT, q7]) rfl ⟨rfl, rfl⟩
  · rw [if_neg (by decide), if_neg (by decide), if_neg (by decide), if_neg (by decide), if_neg (by decide), if_pos rfl]
    go_enter Try.func28, Try.ntmps28
    go_wp2_with fail
    exact bodyPost_ret (v := L3 (two ((S + H) % 18446744073709551616))) (by simp [results, Try.results28, go_sem, L3, two, hS, e9, eT, eor, ehh, eTH, q1]) rfl ⟨rfl, rfl⟩
  · rw [if_neg k0, if_neg k1, if_neg k2, if_neg k3, if_neg k4, if_neg k5]
    go_enter Try.func28, Try.ntmps28
    go_wp2_with fail
    exact bodyPost_ret (v := L3 (0, 0, false)) (by simp [results, Try.results28, go_sem, L3]) rfl ⟨rfl, rfl⟩
end Go.Proofs.Yteakgeplefjncaa
