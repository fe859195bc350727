/- The walk of AluConstants; of the reference's Expand and Pack. -/
import Derived.Test.YteakgeplefjncaaLive
set_option linter.unusedVariables false
set_option linter.unusedSimpArgs false
namespace Go.Proofs.Yteakgeplefjncaa
open Go.RowKit

theorem lft_rot {b : Int} (hb : 0 ≤ b ∧ b < 256) {r : Nat} (h : r < 16) : lft (rot b (2 * r)) r = b := by
  obtain ⟨x0, x1⟩ := hb
  unfold lft rot
  rcases (show r = 0 ∨ r = 1 ∨ r = 2 ∨ r = 3 ∨ r = 4 ∨ r = 5 ∨ r = 6 ∨ r = 7 ∨ r = 8 ∨ r = 9 ∨ r = 10 ∨ r = 11 ∨ r = 12 ∨ r = 13 ∨ r = 14 ∨ r = 15 by omega) with rfl | rfl | rfl | rfl | rfl | rfl | rfl | rfl | rfl | rfl | rfl | rfl | rfl | rfl | rfl | rfl <;>
    simp only [Nat.reduceMul, Nat.reduceSub, Int.reducePow, Nat.mul_zero, Nat.sub_zero] <;> omega
theorem rot_lft {x : Int} (hx : W32 x) {r : Nat} (h : r < 16) : rot (lft x r) (2 * r) = x := by
  obtain ⟨x0, x1⟩ := hx
  unfold lft rot
  rcases (show r = 0 ∨ r = 1 ∨ r = 2 ∨ r = 3 ∨ r = 4 ∨ r = 5 ∨ r = 6 ∨ r = 7 ∨ r = 8 ∨ r = 9 ∨ r = 10 ∨ r = 11 ∨ r = 12 ∨ r = 13 ∨ r = 14 ∨ r = 15 by omega) with rfl | rfl | rfl | rfl | rfl | rfl | rfl | rfl | rfl | rfl | rfl | rfl | rfl | rfl | rfl | rfl <;>
    simp only [Nat.reduceMul, Nat.reduceSub, Int.reducePow, Nat.mul_zero, Nat.sub_zero] <;> omega
theorem expand_at (r : Nat) (b : Int) (hr : r < 16) (hb : 0 ≤ b ∧ b < 256) (c : Bool) : (expand ((r : Int) * 256 + b) c).1 = rot b (2 * r) := by
  unfold expand
  show rot (((r : Int) * 256 + b) % 256) (2 * (((r : Int) * 256 + b) / 256 % 16).toNat) = _
  rw [show ((r : Int) * 256 + b) % 256 = b by omega, show (((r : Int) * 256 + b) / 256 % 16).toNat = r by omega]
/-- What Pack tells: the least number of twelve bits that expands so. -/
theorem packAt_tells {x : Int} (hx : W32 x) : ∀ (n r : Nat), r + n = 16 → (∀ k < r, ¬ lft x k < 256) →
    (∃ r', r' < 16 ∧ lft x r' < 256 ∧ (∀ k < r', ¬ lft x k < 256) ∧ packAt x r n = ((r' : Int) * 256 + lft x r', true)) ∨ ((∀ k < 16, ¬ lft x k < 256) ∧ packAt x r n = (0, false))
  | 0, r, h, hk => .inr ⟨fun k hk' => hk k (by omega), rfl⟩
  | n + 1, r, h, hk => by
    unfold packAt
    by_cases hl : lft x r < 256
    · rw [if_pos hl]; exact .inl ⟨r, by omega, hl, hk, rfl⟩
    · rw [if_neg hl]
      exact packAt_tells hx n (r + 1) (by omega) (fun k hk' => by
        by_cases e : k = r
        · subst e; exact hl
        · exact hk k (by omega))
theorem pack_least {x : Int} (hx : W32 x) : (∃ p : Nat, p < 4096 ∧ pack x = ((p : Int), true) ∧ (expand p false).1 = x ∧ ∀ j < p, (expand (j : Int) false).1 ≠ x) ∨ (pack x = (0, false) ∧ ∀ j : Nat, j < 4096 → (expand (j : Int) false).1 ≠ x) := by
  have split : ∀ j : Nat, j < 4096 → (expand (j : Int) false).1 = x → lft x (j / 256) = ((j % 256 : Nat) : Int) := fun j hj e => by
    have h := expand_at (j / 256) ((j % 256 : Nat) : Int) (by omega) (by omega) false
    rw [show ((j / 256 : Nat) : Int) * 256 + ((j % 256 : Nat) : Int) = j by omega, e] at h
    rw [h]
    exact lft_rot (by omega) (by omega)
  rcases packAt_tells hx 16 0 rfl (fun k hk => by omega) with ⟨r, hr, hl, hk, e⟩ | ⟨hk, e⟩
  · have hl0 : 0 ≤ lft x r := (rot_w hx (by omega)).1
    obtain ⟨b, hb⟩ := Int.eq_ofNat_of_zero_le hl0
    refine .inl ⟨r * 256 + b, by omega, ?_, ?_, fun j hj ej => ?_⟩
    · show packAt x 0 16 = _
      rw [e, hb]
      refine Prod.ext ?_ rfl
      show (r : Int) * 256 + (b : Int) = ((r * 256 + b : Nat) : Int)
      omega
    · rw [show ((r * 256 + b : Nat) : Int) = (r : Int) * 256 + lft x r by rw [hb]; omega, expand_at r _ hr ⟨hl0, hl⟩ false]
      exact rot_lft hx hr
    · have h := split j (by omega) ej
      have h1 : ¬ j / 256 < r := fun hlt => hk _ hlt (by rw [h]; omega)
      have h2 : j / 256 = r := by omega
      rw [h2, hb] at h
      omega
  · exact .inr ⟨e, fun j hj ej => hk (j / 256) (by omega) (by rw [split j hj ej]; omega)⟩

set_option maxRecDepth 100000 in
set_option maxHeartbeats 2000000 in
theorem ref_expand_calls (w : World) (x : Int) (c : Bool) (hx : W32 x) :
    Calls Try.prog 37 #[u x, .bool c] w fun e w' => e = .returned (P2' (expand x c)) ∧ w' = w := by
  have a1 := and_u32_255 hx
  obtain ⟨x0, x1⟩ := hx
  have a2 := and_u32_15 (x := x / 256) ⟨by omega, by omega⟩
  obtain ⟨r, hr⟩ := Int.eq_ofNat_of_zero_le (show 0 ≤ x / 256 % 16 by omega)
  have hrl : r < 16 := by omega
  have hE : expand x c = (rot (x % 256) (2 * r), if r = 0 then c else top (rot (x % 256) (2 * r))) := by unfold expand; rw [hr]; rfl
  have hw : W32 (x % 256) := ⟨by omega, by omega⟩
  rw [hr] at a2
  generalize x % 256 = y at *
  have HO : ∀ (j : Nat), j < 31 → ∀ w, Hid (Calls Try.prog 44 #[.int .i64 3, u (rot y j), .bool false] w fun e w' => e = .returned (.tuple #[u (rot y (j + 1)), .bool (top (rot y (j + 1)))]) ∧ w' = w) := fun j hj w => Lib.hid (by
    have h := one_calls w 3 (rot y j) false (rot_w hw (by omega)) (by omega)
    rw [sh_ror false (by decide), show 1 % 32 = 1 from rfl, rot_one hw (by omega), show (j + 1) % 32 = j + 1 by omega] at h
    exact h)
  have H0 : Hid (rot y 0 = y) := Lib.hid (rot_zero y)
  have HE := Lib.hid hE
  have e1 : wrap64 (r : Int) = r := by unfold wrap64; omega
  have e2 : wrap64 (2 * (r : Int)) = 2 * r := by unfold wrap64; omega
  clear hE hw hr
  go_enter Try.func37, Try.ntmps37
  go_wp2_with fail
  go_loopw [1, 7, 8] (fun cv yv i wr => ∃ (j : Nat) (cb : Bool), j ≤ 2 * r ∧ i = .int .i64 j ∧ cv = .bool cb ∧ yv = u (rot y j) ∧ Hid (cb = if j = 0 then c else top (rot y j)) ∧ wr = w) (fun _ _ i _ => 2 * r - (intOf i).toNat)
  case atStart => exact ⟨0, c, by omega, rfl, rfl, by rw [H0.out], Lib.hid rfl, rfl⟩
  case round =>
    obtain ⟨j, cb, hj, rfl, rfl, rfl, hcb, rfl⟩ := hrel
    by_cases hj2 : j < 2 * r
    · have HO := HO j (by omega)
      have q : (j : Int) < 2 * r := by omega
      go_wp2_with fail
      refine (HO _).out.mono ?_
      rintro e w1 ⟨rfl, rfl⟩
      go_wp2_with fail
      go_roundw
      case rel => exact ⟨j + 1, _, by omega, by go_num, rfl, rfl, Lib.hid (by rw [if_neg (by omega)]), trivial⟩
      case measure => simp [intOf]; omega
    · obtain rfl : j = 2 * r := by omega
      have q : ¬ ((2 * r : Nat) : Int) < 2 * r := by omega
      have hc : Hid ((if r = 0 then c else top (rot y (2 * r))) = cb) := Lib.hid (by
        rw [hcb.out]
        by_cases h : r = 0
        · simp [h]
        · rw [if_neg h, if_neg (by omega)])
      clear hcb
      go_wp2_with fail
      exact bodyPost_ret (v := P2' (rot y (2 * r), cb)) (by simp [results, Try.results37, go_sem, P2']) rfl ⟨by rw [HE.out, hc.out], rfl⟩

set_option maxRecDepth 100000 in
set_option maxHeartbeats 2000000 in
theorem ref_pack_calls (w : World) (x : Int) (hx : W32 x) :
    Calls Try.prog 39 #[u x] w fun e w' => e = .returned (P2' (pack x)) ∧ w' = w := by
  have HX : ∀ j : Nat, j < 4096 → ∀ w, Hid (Calls Try.prog 37 #[u (j : Int), .bool false] w fun e w' => e = .returned (P2' (expand j false)) ∧ w' = w) := fun j hj w => Lib.hid (ref_expand_calls w j false ⟨by omega, by omega⟩)
  have HP := Lib.hid (pack_least hx)
  simp only [P2'] at HX
  obtain ⟨g, hg⟩ : ∃ g : Nat → Int × Bool, ∀ j : Nat, expand (j : Int) false = g j := ⟨_, fun _ => rfl⟩
  simp only [hg] at HX HP
  clear hg hx
  go_enter Try.func39, Try.ntmps39
  go_wp2_with fail
  go_loopw [4] (fun i wr => ∃ j : Nat, j ≤ 4096 ∧ i = .int .u32 j ∧ Hid (∀ k < j, (g k).1 ≠ x) ∧ wr = w) (fun i _ => 4096 - (intOf i).toNat)
  case atStart => exact ⟨0, by omega, rfl, Lib.hid (fun k hk => by omega), rfl⟩
  case round =>
    obtain ⟨j, hj, rfl, hn, rfl⟩ := hrel
    by_cases hj2 : j < 4096
    · have HX := HX j hj2
      have q : (j : Int) < 4096 := by omega
      have e8 : ((j : Int) + 1) % 4294967296 = (j : Int) + 1 := by omega
      by_cases he : (g j).1 = x
      · have hp : Hid (pack x = ((j : Int), true)) := Lib.hid (by
          rcases HP.out with ⟨p, _, e, e2, h⟩ | ⟨_, h⟩
          · have : p = j := by
              rcases Nat.lt_trichotomy p j with h1 | h1 | h1
              · exact absurd e2 (hn.out p h1)
              · exact h1
              · exact absurd he (h j h1)
            rw [e, this]
          · exact absurd he (h j hj2))
        generalize (g j).2 = gb at *
        generalize (g j).1 = ga at *
        clear hn
        go_wp2_with fail
        refine (HX _).out.mono ?_
        rintro e w1 ⟨rfl, rfl⟩
        go_wp2_with fail
        exact bodyPost_ret (v := P2' ((j : Int), true)) (by simp [results, Try.results39, go_sem, P2']) rfl ⟨by rw [hp.out], rfl⟩
      · have hn' : Hid (∀ k < j + 1, (g k).1 ≠ x) := Lib.hid (fun k hk => by
          by_cases e : k = j
          · rw [e]; exact he
          · exact hn.out k (by omega))
        generalize (g j).2 = gb at HX
        generalize (g j).1 = ga at HX he
        clear hn
        go_wp2_with fail
        refine (HX _).out.mono ?_
        rintro e w1 ⟨rfl, rfl⟩
        go_wp2_with fail
        go_roundw
        case rel => exact ⟨j + 1, by omega, by go_num, hn', trivial⟩
        case measure => simp [intOf]; omega
    · obtain rfl : j = 4096 := by omega
      have hp : Hid (pack x = (0, false)) := Lib.hid (by
        rcases HP.out with ⟨p, h1, _, e2, _⟩ | ⟨h, _⟩
        · exact absurd e2 (hn.out p h1)
        · exact h)
      go_wp2_with fail
      exact bodyPost_ret (v := P2' (0, false)) (by simp [results, Try.results39, go_sem, P2']) rfl ⟨by rw [hp.out], rfl⟩

set_option maxRecDepth 100000 in
set_option maxHeartbeats 2000000 in
theorem constants_core (w : World) (imm x : Int) (c : Bool) (hi : W32 imm) (hx : W32 x) :
    Calls Try.prog 15 #[u imm, u x, .bool c] w fun e w' => e = .returned (.bool true) ∧ Below w.heap.size w w' := by
  have HL := fun w => Lib.hid (live_calls w)
  have H1 := fun w => expand_calls w imm c hi
  have H2 := fun w => ref_expand_calls w imm c hi
  have H3 := fun w => pack_calls w x hx
  have H4 := fun w => ref_pack_calls w x hx
  generalize expand imm c = m1 at *
  generalize pack x = m2 at *
  obtain ⟨r1, b1⟩ := m1
  obtain ⟨r2, b2⟩ := m2
  simp only [P2'] at H1 H2 H3 H4
  have H1 := fun w => Lib.hid (H1 w)
  have H2 := fun w => Lib.hid (H2 w)
  have H3 := fun w => Lib.hid (H3 w)
  have H4 := fun w => Lib.hid (H4 w)
  clear hi hx
  go_enter Try.func15, Try.ntmps15
  go_wp2_with fail
  refine (H1 _).out.mono ?_
  rintro e w1 ⟨rfl, rfl⟩
  go_wp2_with fail
  refine (H2 _).out.mono ?_
  rintro e w1 ⟨rfl, rfl⟩
  go_wp2_with fail
  refine (H3 _).out.mono ?_
  rintro e w1 ⟨rfl, rfl⟩
  go_wp2_with fail
  refine (H4 _).out.mono ?_
  rintro e w1 ⟨rfl, rfl⟩
  go_wp2_with fail
  refine (HL _).out.mono ?_
  rintro e w2 ⟨rfl, hb⟩
  have HB := Lib.hid hb
  clear hb
  go_wp2_with fail
  go_ret
  exact ⟨by simp, HB.out⟩
end Go.Proofs.Yteakgeplefjncaa
