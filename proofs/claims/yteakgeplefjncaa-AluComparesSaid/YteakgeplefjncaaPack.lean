/- The walks of Expand and Pack. -/
import Derived.Test.YteakgeplefjncaaLeaf
import Derived.BigRegion
set_option linter.unusedVariables false
set_option linter.unusedSimpArgs false
namespace Go.Proofs.Yteakgeplefjncaa
open Go.RowKit

/-- A constant of twelve bits. -/
def expand (x : Int) (c : Bool) : Int × Bool :=
  let r := (x / 256 % 16).toNat
  (rot (x % 256) (2 * r), if r = 0 then c else top (rot (x % 256) (2 * r)))
def P2' (x : Int × Bool) : Value := .tuple #[u x.1, .bool x.2]
theorem expand_calls (w : World) (x : Int) (c : Bool) (hx : W32 x) :
    Calls Try.prog 36 #[u x, .bool c] w fun e w' => e = .returned (P2' (expand x c)) ∧ w' = w := by
  have a1 := and_u32_255 hx
  obtain ⟨x0, x1⟩ := hx
  have a2 := and_u32_15 (x := x / 256) ⟨by omega, by omega⟩
  obtain ⟨r, hr⟩ := Int.eq_ofNat_of_zero_le (show 0 ≤ x / 256 % 16 by omega)
  have hrl : r < 16 := by omega
  have hE : expand x c = (rot (x % 256) (2 * r), if r = 0 then c else top (rot (x % 256) (2 * r))) := by unfold expand; rw [hr]; rfl
  have hw : W32 (x % 256) := ⟨by omega, by omega⟩
  have hm : rot (x % 256) (32 - ((-2 * (r : Int)) % 32).toNat) = rot (x % 256) (2 * r) := by
    by_cases hz : r = 0
    · subst hz; exact (rot_full hw).trans (rot_zero _).symm
    · rw [show 32 - ((-2 * (r : Int)) % 32).toNat = 2 * r by omega]
  have HR := fun w => Lib.hid (rotl_calls w (x % 256) (-2 * (r : Int)) hw)
  have hw2 := rot_w hw (r := 2 * r) (by omega)
  have ht := top_eq hw2
  rw [hm] at HR
  rw [hr] at a2
  have e1 : wrap64 (r : Int) = r := by unfold wrap64; omega
  have e2 : wrap64 (-2 * (r : Int)) = -2 * r := by unfold wrap64; omega
  have HE := Lib.hid hE
  generalize rot (x % 256) (2 * r) = t at *
  clear hE hm hw hw2 hr
  rw [HE.out]
  by_cases h0 : r = 0
  · subst h0
    rw [if_pos rfl]
    go_enter Try.func36, Try.ntmps36
    go_wp2_with fail
    refine (HR _).out.mono ?_
    rintro e w1 ⟨rfl, rfl⟩
    go_wp2_with fail
    exact bodyPost_ret (v := P2' (t, c)) (by simp [results, Try.results36, go_sem, P2']) rfl ⟨rfl, rfl⟩
  · rw [if_neg h0]
    have h1 : ¬ (r : Int) = 0 := by omega
    go_enter Try.func36, Try.ntmps36
    go_wp2_with fail
    refine (HR _).out.mono ?_
    rintro e w1 ⟨rfl, rfl⟩
    go_wp2_with fail
    exact bodyPost_ret (v := P2' (t, top t)) (by simp [results, Try.results36, go_sem, P2', ht]) rfl ⟨rfl, rfl⟩

/-- x turned left by 2 * r. -/
def lft (x : Int) (r : Nat) : Int := rot x (32 - 2 * r)
/-- The least turn from r on at which x is below 256; n turns are left. -/
def packAt (x : Int) : Nat → Nat → Int × Bool
  | _, 0 => (0, false)
  | r, n + 1 => if lft x r < 256 then ((r : Int) * 256 + lft x r, true) else packAt x (r + 1) n
def pack (x : Int) : Int × Bool := packAt x 0 16

set_option maxRecDepth 100000 in
theorem pack_calls (w : World) (x : Int) (hx : W32 x) :
    Calls Try.prog 38 #[u x] w fun e w' => e = .returned (P2' (pack x)) ∧ w' = w := by
  have HR : ∀ r : Nat, r < 16 → ∀ w, Hid (Calls Try.prog 43 #[u x, .int .i64 (2 * (r : Int))] w fun e w' => e = .returned (u (lft x r)) ∧ w' = w) := fun r hr w => by
    have := rotl_calls w x (2 * (r : Int)) hx
    rw [show 32 - ((2 * (r : Int)) % 32).toNat = 32 - 2 * r by omega] at this
    exact Lib.hid this
  have HW : ∀ r : Nat, Hid (W32 (lft x r)) := fun r => Lib.hid (rot_w hx (by omega))
  have HP : Hid (pack x = packAt x 0 16) := Lib.hid rfl
  go_enter Try.func38, Try.ntmps38
  go_wp2_with fail
  go_loopw [6] (fun i wr => ∃ r : Nat, r ≤ 16 ∧ i = .int .i64 r ∧ Hid (pack x = packAt x r (16 - r)) ∧ wr = w) (fun i _ => 16 - (intOf i).toNat)
  case atStart => exact ⟨0, by omega, rfl, HP, rfl⟩
  case round =>
    obtain ⟨r, hr, rfl, hp, rfl⟩ := hrel
    by_cases h16 : r < 16
    · have HR := HR r h16
      have HW := HW r
      have q : (r : Int) < 16 := by omega
      have e2 : wrap64 (2 * (r : Int)) = 2 * r := by unfold wrap64; omega
      have e3 : (r : Int) % 4294967296 = r := by omega
      have e4 : (r : Int) * 256 % 4294967296 = r * 256 := by omega
      have hp' : packAt x r (16 - r) = if lft x r < 256 then ((r : Int) * 256 + lft x r, true) else packAt x (r + 1) (16 - (r + 1)) := by
        rw [show 16 - r = (16 - (r + 1)) + 1 by omega]; rfl
      have HP' := Lib.hid hp'
      clear hp'
      generalize lft x r = t at *
      obtain ⟨t0, t1⟩ := HW.out
      by_cases ht : t < 256
      · have eo : bits .or .u32 ((r : Int) * 256) t = r * 256 + t := or_u32 8 (by omega) (by omega) (by omega) (by omega) (by omega) (by omega)
        have hf : Hid (pack x = ((r : Int) * 256 + t, true)) := Lib.hid (by rw [hp.out, HP'.out, if_pos ht])
        clear hp
        go_wp2_with fail
        refine (HR _).out.mono ?_
        rintro e w1 ⟨rfl, rfl⟩
        go_wp2_with fail
        exact bodyPost_ret (v := P2' ((r : Int) * 256 + t, true)) (by simp [results, Try.results38, go_sem, P2', e3, e4, eo]) rfl ⟨by rw [hf.out], rfl⟩
      · have hf : Hid (pack x = packAt x (r + 1) (16 - (r + 1))) := Lib.hid (by rw [hp.out, HP'.out, if_neg ht])
        clear hp
        go_wp2_with fail
        refine (HR _).out.mono ?_
        rintro e w1 ⟨rfl, rfl⟩
        go_wp2_with fail
        go_roundw
        case rel => exact ⟨r + 1, by omega, by go_num, hf, trivial⟩
        case measure => simp [intOf]; omega
    · obtain rfl : r = 16 := by omega
      have hf : Hid (pack x = (0, false)) := Lib.hid hp.out
      go_wp2_with fail
      exact bodyPost_ret (v := P2' (0, false)) (by simp [results, Try.results38, go_sem, P2']) rfl ⟨by rw [hf.out], rfl⟩

end Go.Proofs.Yteakgeplefjncaa
