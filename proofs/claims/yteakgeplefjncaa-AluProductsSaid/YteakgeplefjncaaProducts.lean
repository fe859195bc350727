/- The walk of AluProducts. -/
import Derived.Test.YteakgeplefjncaaLive
set_option linter.unusedVariables false
set_option linter.unusedSimpArgs false
namespace Go.Proofs.Yteakgeplefjncaa
open Go.RowKit

/-- What is put together of two words. -/
theorem join64 (Q : Int) (q0 : 0 ≤ Q) (q1 : Q < 18446744073709551616) : bits .or .u64 (Q / 4294967296 * 4294967296) (Q % 4294967296) = Q := by
  rw [or_u64 32 (by omega) (by omega) (by omega) (by omega) (by omega) (by omega)]; omega
theorem wr64 (Q : Int) (q0 : 0 ≤ Q) (q1 : Q < 18446744073709551616) : IntKind.u64.wrap (Q / 4294967296) = Q / 4294967296 ∧ IntKind.u64.wrap (Q / 4294967296 * 4294967296) = Q / 4294967296 * 4294967296 ∧ IntKind.u64.wrap (Q % 4294967296) = Q % 4294967296 := by
  refine ⟨?_, ?_, ?_⟩ <;> rw [wrap_u64] <;> omega
theorem mod64 (x : Int) : 0 ≤ x % 18446744073709551616 ∧ x % 18446744073709551616 < 18446744073709551616 := by omega
theorem mod_add64 (x y : Int) : (x % 18446744073709551616 + y) % 18446744073709551616 = (x + y) % 18446744073709551616 := by omega
theorem mod_add32 (x y : Int) : (x % 4294967296 + y) % 4294967296 = (x + y) % 4294967296 := by omega

theorem w64_hi (h : Int) (h0 : 0 ≤ h) (h1 : h < 4294967296) : IntKind.u64.wrap (h * 4294967296) = h * 4294967296 := by rw [wrap_u64]; omega
theorem or_hi (h l : Int) (h0 : 0 ≤ h) (h1 : h < 4294967296) (l0 : 0 ≤ l) (l1 : l < 4294967296) : bits .or .u64 (h * 4294967296) l = h * 4294967296 + l :=
  or_u64 32 (by omega) (by omega) (by omega) (by omega) (by omega) (by omega)
theorem w64_id (P : Int) (p0 : 0 ≤ P) (p1 : P < 18446744073709551616) : IntKind.u64.wrap P = P := by rw [wrap_u64]; omega
theorem wrap64_id (S : Int) (s0 : -4611686018427387904 ≤ S) (s1 : S ≤ 4611686018427387904) : wrap64 S = S := by unfold wrap64; omega

set_option maxRecDepth 100000 in
set_option maxHeartbeats 4000000 in
theorem products_core (w : World) (a b h l : Int) (ha : W32 a) (hb : W32 b) (hh : W32 h) (hl : W32 l) :
    Calls Try.prog 12 #[u a, u b, u h, u l] w fun e w' => e = .returned (.bool true) ∧ Below w.heap.size w w' := by
  have HL := fun w => Lib.hid (live_calls w)
  have H := fun w o => long_calls w o a b h l ha hb hh hl
  obtain ⟨p0, p1⟩ := mul_bound ha hb
  obtain ⟨s0, s1⟩ := sgn_bound ha hb
  have e5 : wrap32 a = sgn a := by obtain ⟨x0, x1⟩ := ha; unfold wrap32 sgn; split <;> omega
  have e6 : wrap32 b = sgn b := by obtain ⟨x0, x1⟩ := hb; unfold wrap32 sgn; split <;> omega
  have e7 : wrap64 (sgn a) = sgn a := by obtain ⟨x0, x1⟩ := ha; unfold wrap64 sgn; split <;> omega
  have e8 : wrap64 (sgn b) = sgn b := by obtain ⟨x0, x1⟩ := hb; unfold wrap64 sgn; split <;> omega
  have ea : IntKind.u64.wrap a = a := by obtain ⟨x0, x1⟩ := ha; rw [wrap_u64]; omega
  have eb : IntKind.u64.wrap b = b := by obtain ⟨x0, x1⟩ := hb; rw [wrap_u64]; omega
  have eh : IntKind.u64.wrap h = h := by obtain ⟨x0, x1⟩ := hh; rw [wrap_u64]; omega
  have el : IntKind.u64.wrap l = l := by obtain ⟨x0, x1⟩ := hl; rw [wrap_u64]; omega
  obtain ⟨h0, h1⟩ := hh
  obtain ⟨l0, l1⟩ := hl
  have H1 := fun w => H w 21
  have H2 := fun w => H w 23
  have H3 := fun w => H w 22
  have H4 := fun w => H w 24
  have H5 := fun w => H w 19
  have H6 := fun w => H w 20
  rw [show long 21 a b h l = two (a * b) from rfl] at H1
  rw [show long 23 a b h l = two (sgn a * sgn b % 18446744073709551616) from rfl] at H2
  rw [show long 22 a b h l = two ((a * b + (h * 4294967296 + l)) % 18446744073709551616) from rfl] at H3
  rw [show long 24 a b h l = two ((sgn a * sgn b + (h * 4294967296 + l)) % 18446744073709551616) from rfl] at H4
  rw [show long 19 a b h l = (0, (a * b) % 4294967296, true) from rfl] at H5
  rw [show long 20 a b h l = (0, (a * b + l) % 4294967296, true) from rfl] at H6
  simp only [L3, two] at H1 H2 H3 H4 H5 H6
  clear H ha hb
  obtain ⟨S, hS⟩ : ∃ S, sgn a * sgn b = S := ⟨_, rfl⟩
  obtain ⟨P, hP⟩ : ∃ P, a * b = P := ⟨_, rfl⟩
  rw [hS] at s0 s1 H2 H4
  rw [hP] at p0 p1 H1 H3 H5 H6
  obtain ⟨T, hT⟩ : ∃ T, S % 18446744073709551616 = T := ⟨_, rfl⟩
  obtain ⟨Q1, hQ1⟩ : ∃ T, (P + (h * 4294967296 + l)) % 18446744073709551616 = T := ⟨_, rfl⟩
  obtain ⟨Q2, hQ2⟩ : ∃ T, (S + (h * 4294967296 + l)) % 18446744073709551616 = T := ⟨_, rfl⟩
  obtain ⟨M, hM⟩ : ∃ T, P % 4294967296 = T := ⟨_, rfl⟩
  obtain ⟨M2, hM2⟩ : ∃ T, (P + l) % 4294967296 = T := ⟨_, rfl⟩
  rw [hT] at H2
  rw [hQ1] at H3
  rw [hQ2] at H4
  rw [hM] at H1 H5
  rw [hM2] at H6
  have mT := mod64 S
  have m1 := mod64 (P + (h * 4294967296 + l))
  have m2 := mod64 (S + (h * 4294967296 + l))
  rw [hT] at mT
  rw [hQ1] at m1
  rw [hQ2] at m2
  have jP := join64 P p0 p1
  have jT := join64 T mT.1 mT.2
  have j1 := join64 Q1 m1.1 m1.2
  have j2 := join64 Q2 m2.1 m2.2
  obtain ⟨wP1, wP2, wP3⟩ := wr64 P p0 p1
  obtain ⟨wT1, wT2, wT3⟩ := wr64 T mT.1 mT.2
  obtain ⟨w11, w12, w13⟩ := wr64 Q1 m1.1 m1.2
  obtain ⟨w21, w22, w23⟩ := wr64 Q2 m2.1 m2.2
  rw [hM] at jP wP3
  obtain ⟨Hh, hHh⟩ : ∃ H, h * 4294967296 + l = H := ⟨_, rfl⟩
  have ehh : IntKind.u64.wrap (h * 4294967296) = h * 4294967296 := w64_hi h h0 h1
  have eor : bits .or .u64 (h * 4294967296) l = Hh := (or_hi h l h0 h1 l0 l1).trans hHh
  have eP : IntKind.u64.wrap P = P := w64_id P p0 p1
  have eS : wrap64 S = S := wrap64_id S s0 s1
  have eT : IntKind.u64.wrap S = T := by rw [wrap_u64]; exact hT
  have eQ1 : IntKind.u64.wrap (P + Hh) = Q1 := by rw [wrap_u64, ← hHh]; exact hQ1
  have eQ2 : IntKind.u64.wrap (T + Hh) = Q2 := by rw [wrap_u64, ← hHh, ← hT, mod_add64]; exact hQ2
  have eM2 : (M + l) % 4294967296 = M2 := by rw [← hM, mod_add32]; exact hM2
  have H1 := fun w => Lib.hid (H1 w)
  have H2 := fun w => Lib.hid (H2 w)
  have H3 := fun w => Lib.hid (H3 w)
  have H4 := fun w => Lib.hid (H4 w)
  have H5 := fun w => Lib.hid (H5 w)
  have H6 := fun w => Lib.hid (H6 w)
  clear hT hQ1 hQ2 hM2 hHh mT m1 m2 p0 p1 s0 s1 h0 h1 l0 l1
  go_enter Try.func12, Try.ntmps12
  go_wp2_with fail
  refine (H1 _).out.mono ?_
  rintro e v1 ⟨rfl, rfl⟩
  go_wp2_with fail
  refine (H2 _).out.mono ?_
  rintro e v1 ⟨rfl, rfl⟩
  go_wp2_with fail
  refine (HL _).out.mono ?_
  rintro e v5 ⟨rfl, hb⟩
  have HB5 := Lib.hid hb
  clear hb
  go_wp2_with fail
  refine (H3 _).out.mono ?_
  rintro e v6 ⟨rfl, rfl⟩
  go_wp2_with fail
  refine (H4 _).out.mono ?_
  rintro e v6 ⟨rfl, rfl⟩
  go_wp2_with fail
  refine (H5 _).out.mono ?_
  rintro e v6 ⟨rfl, rfl⟩
  go_wp2_with fail
  refine (H6 _).out.mono ?_
  rintro e v6 ⟨rfl, rfl⟩
  go_wp2_with fail
  go_ret
  exact ⟨by simp, HB5.out⟩
end Go.Proofs.Yteakgeplefjncaa
