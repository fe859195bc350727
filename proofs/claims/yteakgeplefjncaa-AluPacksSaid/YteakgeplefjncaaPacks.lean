/- The walk of AluPacks. Printed by mkpacks.py. -/
import Derived.Test.YteakgeplefjncaaConstants
set_option linter.unusedVariables false
set_option linter.unusedSimpArgs false
namespace Go.Proofs.Yteakgeplefjncaa
open Go.RowKit

/-- L is the least turn above k (to 15) that leaves e below 256; -1: there is none. -/
def Least (e L k : Int) : Prop := (L = -1 ∧ ∀ r : Nat, k < r → r < 16 → ¬ lft e r < 256) ∨ (∃ r : Nat, L = r ∧ k < r ∧ r < 16 ∧ lft e r < 256 ∧ ∀ r' : Nat, k < r' → r' < r → ¬ lft e r' < 256)
theorem Least.start (e : Int) : Least e (-1) 15 := .inl ⟨rfl, fun r h1 h2 => by omega⟩
theorem Least.hit {e L : Int} {k : Nat} (h : Least e L k) (hk : k < 16) (hl : lft e k < 256) : Least e k ((k : Int) - 1) :=
  .inr ⟨k, rfl, by omega, hk, hl, fun r' h1 h2 => by omega⟩
theorem Least.miss {e L : Int} {k : Nat} (h : Least e L k) (hk : k < 16) (hl : ¬ lft e k < 256) : Least e L ((k : Int) - 1) := by
  rcases h with ⟨e1, h⟩ | ⟨r, e1, h1, h2, h3, h4⟩
  · exact .inl ⟨e1, fun r h1 h2 => by
      by_cases hr : r = k
      · subst hr; exact hl
      · exact h r (by omega) h2⟩
  · exact .inr ⟨r, e1, by omega, h2, h3, fun r' h5 h6 => by
      by_cases hr : r' = k
      · subst hr; exact hl
      · exact h4 r' (by omega) h6⟩
theorem Least.tells {e L : Int} (he : W32 e) (h : Least e L (-1)) :
    (L = -1 ∧ pack e = (0, false)) ∨ (∃ r : Nat, r < 16 ∧ L = r ∧ ∃ l : Int, 0 ≤ l ∧ l < 256 ∧ pack e = ((r : Int) * 256 + l, true) ∧ (expand ((r : Int) * 256 + l) false).1 = e) := by
  have hp : pack e = packAt e 0 16 := rfl
  rcases packAt_tells he 16 0 rfl (fun k hk => by omega) with ⟨r, hr, hl, hk, e1⟩ | ⟨hk, e1⟩
  · rcases h with ⟨_, h⟩ | ⟨r2, e2, h1, h2, h3, h4⟩
    · exact absurd hl (h r (by omega) hr)
    · have : r2 = r := by
        rcases Nat.lt_trichotomy r2 r with q | q | q
        · exact absurd h3 (hk r2 q)
        · exact q
        · exact absurd hl (h4 r (by omega) q)
      subst this
      exact .inr ⟨r2, hr, e2, lft e r2, (rot_w he (by omega)).1, hl, by rw [hp, e1], by rw [expand_at r2 (lft e r2) hr ⟨(rot_w he (by omega)).1, hl⟩ false]; exact rot_lft he hr⟩
  · rcases h with ⟨e2, _⟩ | ⟨r2, e2, h1, h2, h3, h4⟩
    · exact .inl ⟨e2, by rw [hp, e1]⟩
    · exact absurd h3 (hk r2 h2)
theorem Least.tells' {e L : Int} (he : W32 e) (h : Least e L (-1)) :
    (L = -1 ∧ pack e = (0, false)) ∨ (∃ p : Int, 0 ≤ L ∧ W32 p ∧ pack e = (p, true) ∧ (expand p false).1 = e ∧ p / 256 = L ∧ wrap64 L = L) := by
  rcases Least.tells he h with h | ⟨r, hr, e1, l, l0, l1, hp, hx⟩
  · exact .inl h
  · exact .inr ⟨(r : Int) * 256 + l, by omega, ⟨by omega, by omega⟩, hp, hx, by omega, by rw [e1]; unfold wrap64; omega⟩
theorem shl_lft {e : Int} (he : W32 e) {k : Nat} (hk : k < 16) : (sh 3 e ((32 - 2 * (k : Int)) % 256).toNat false).1 = lft e k := by
  rw [show ((32 - 2 * (k : Int)) % 256).toNat = 32 - 2 * k by omega, sh_ror false (by omega)]
  show rot e ((32 - 2 * k) % 32) = rot e (32 - 2 * k)
  by_cases h : k = 0
  · subst h; exact (rot_zero e).trans (rot_full he).symm
  · rw [show (32 - 2 * k) % 32 = 32 - 2 * k by omega]

/-- The two words in their block. -/
structure Wx (w : World) (q : Nat) (x y : Int) : Prop where
  lt : q < w.heap.size
  c0 : w.cell? ⟨q, 0, none⟩ = some (u x)
  c1 : w.cell? ⟨q, 1, none⟩ = some (u y)
theorem Wx.keep {w w' : World} {q : Nat} {x y : Int} (h : Wx w q x y) (hb : Below w.heap.size w w') : Wx w' q x y := ⟨Nat.lt_of_lt_of_le h.lt hb.size, (hb.cell h.lt).trans h.c0, (hb.cell h.lt).trans h.c1⟩

set_option maxRecDepth 100000 in
set_option maxHeartbeats 4000000 in
theorem packs_core (w : World) (x b r : Int) (hx : W32 x) (hb : W32 b) :
    Calls Try.prog 16 #[u x, u b, .int .i64 r] w fun e w' => e = .returned (.bool true) ∧ Below w.heap.size w w' := by
  have HL := fun w => Lib.hid (live_calls w)
  have a1 := and_u32_255 hb
  have a2 := and_i64_15 r
  obtain ⟨m, hm⟩ : ∃ m, r % 16 = m := ⟨_, rfl⟩
  have hmb : 0 ≤ m ∧ m < 16 := by omega
  rw [hm] at a2
  have e1 : wrap64 (2 * m) = 2 * m := by unfold wrap64; omega
  have hy0 : W32 (b % 256) := ⟨by omega, by omega⟩
  have HY := fun w => shift_calls w 3 (b % 256) (2 * m) false hy0
  have hy := sh_w (k := 3) (m := ((2 * m) % 256).toNat) (c := false) hy0
  generalize sh 3 (b % 256) ((2 * m) % 256).toNat false = yy at *
  obtain ⟨y, yc⟩ := yy
  simp only at HY hy
  have HY := fun w => Lib.hid (HY w)
  have HS : ∀ e, W32 e → ∀ k : Nat, k < 16 → ∀ w, ∃ cb, Hid (Calls Try.prog 22 #[.int .i64 3, u e, .int .i64 (32 - 2 * (k : Int)), .bool false] w fun e' w' => e' = .returned (.tuple #[u (lft e k), .bool cb]) ∧ Below w.heap.size w w') := fun e he k hk w =>
    ⟨_, Lib.hid (by have h := shift_calls w 3 e (32 - 2 * (k : Int)) false he; rw [shl_lft he hk] at h; exact h)⟩
  have HP : ∀ e, W32 e → ∀ w, Hid (Calls Try.prog 38 #[u e] w fun e' w' => e' = .returned (.tuple #[u (pack e).1, .bool (pack e).2]) ∧ w' = w) := fun e he w => Lib.hid (pack_calls w e he)
  have HE : ∀ q, W32 q → ∀ w, Hid (Calls Try.prog 36 #[u q, .bool false] w fun e' w' => e' = .returned (.tuple #[u (expand q false).1, .bool (expand q false).2]) ∧ w' = w) := fun q hq w => Lib.hid (expand_calls w q false hq)
  have HX := Lib.hid hx
  have HYW := Lib.hid hy
  clear hm hmb hx hb hy0 hy
  go_enter Try.func16, Try.ntmps16
  go_wp2_with fail
  refine (HL _).out.mono ?_
  rintro e v1 ⟨rfl, hb⟩
  have HB := Lib.hid hb
  clear hb
  go_wp2_with fail
  refine (HY _).out.mono ?_
  rintro e v2 ⟨rfl, hb⟩
  have HB := Lib.hid (below_then HB.out HB.out.size hb)
  clear hb
  go_wp2_with fail
  have HW : Hid (Wx (v2.alloc (.cells #[u x, u y] 23)) v2.heap.size x y) := Lib.hid ⟨by simp, by simp, by simp⟩
  have HB := Lib.hid (HB.out.alloc HB.out.size (.cells #[u x, u y] 23))
  generalize v2.alloc (.cells #[u x, u y] 23) = v3 at *
  generalize v2.heap.size = Q at *
  go_loopw [10] (fun i wr => ∃ k : Int, (0 ≤ k ∧ k ≤ 2) ∧ i = .int .i64 k ∧ Hid (Wx wr Q x y) ∧ Hid (Below w.heap.size w wr)) (fun i _ => (2 - intOf i).toNat)
  case atStart => exact ⟨0, by omega, rfl, HW, HB⟩
  case round =>
    obtain ⟨k, hk, rfl, HW', HB'⟩ := hrel
    clear HW HB
    rcases (show k = 0 ∨ k = 1 ∨ k = 2 by omega) with rfl | rfl | rfl
    · have HS := HS x HX.out
      have HP := HP x HX.out
      have HT := fun L h => Least.tells' (L := L) HX.out h
      have HSt := Lib.hid (Least.start x)
      obtain ⟨l0, c0, c1⟩ := HW'.out
      go_wp2_with fail
      refine (HP _).out.mono ?_
      rintro e' v4 ⟨rfl, rfl⟩
      clear l0 c0 c1
      generalize hpw : (pack x).1 = pw at *
      generalize hpb : (pack x).2 = pb at *
      go_wp2_with fail
      go_loopw [13, 14] (fun s i wr => ∃ (L : Int) (k : Int), (-1 ≤ k ∧ k ≤ 15) ∧ i = .int .i64 k ∧ s = .int .i64 L ∧ Hid (Least x L k) ∧ Hid (Wx wr Q x y) ∧ Hid (Below w.heap.size w wr)) (fun _ i _ => (intOf i + 1).toNat)
      case atStart => exact ⟨-1, 15, by omega, rfl, rfl, HSt, HW', HB'⟩
      case round =>
        obtain ⟨L, k, hk, rfl, rfl, hL, HW2, HB2⟩ := hrel
        clear HW' HB' HSt
        by_cases hk0 : 0 ≤ k
        · obtain ⟨j, rfl⟩ := Int.eq_ofNat_of_zero_le hk0
          have hj : j < 16 := by omega
          obtain ⟨l0, c0, c1⟩ := HW2.out
          have f1 : wrap64 (2 * (j : Int)) = 2 * j := by unfold wrap64; omega
          have f2 : wrap64 (32 - 2 * (j : Int)) = 32 - 2 * j := by unfold wrap64; omega
          have f3 : wrap64 ((j : Int) - 1) = j - 1 := by unfold wrap64; omega
          go_wp2_with fail
          obtain ⟨cb, hcb⟩ := HS j hj _
          refine hcb.out.mono ?_
          rintro e' v5 ⟨rfl, hb⟩
          have HW3 := Lib.hid (HW2.out.keep hb)
          have HB3 := Lib.hid (below_then HB2.out HB2.out.size hb)
          clear hb l0 c0 c1 hcb HW2 HB2
          obtain ⟨l0, c0, c1⟩ := HW3.out
          by_cases hl : lft x j < 256
          · have hn := Lib.hid (hL.out.hit hj hl)
            by_cases j0 : j = 0
            · subst j0
              have he : x < 256 := by have h := hl; rw [show lft x 0 = x from rot_full HX.out] at h; exact h
              have j0' : ((0 : Nat) : Int) = 0 := rfl
              generalize lft x 0 = t at *
              go_wp2_with fail
              go_roundw
              case rel => exact ⟨_, -1, by omega, by go_num, rfl, Lib.hid (by have h := hn.out; simpa using h), HW3, HB3⟩
              case measure => simp [intOf]
            · have j0' : ¬ (j : Int) = 0 := by omega
              generalize lft x j = t at *
              go_wp2_with fail
              go_roundw
              case rel => exact ⟨_, (j : Int) - 1, by omega, rfl, rfl, hn, HW3, HB3⟩
              case measure => first | (simp [intOf]; done) | (simp [intOf]; omega)
          · have hn := Lib.hid (hL.out.miss hj hl)
            by_cases j0 : j = 0
            · subst j0
              have he : ¬ x < 256 := by have h := hl; rw [show lft x 0 = x from rot_full HX.out] at h; exact h
              have j0' : ((0 : Nat) : Int) = 0 := rfl
              generalize lft x 0 = t at *
              go_wp2_with fail
              go_roundw
              case rel => exact ⟨_, -1, by omega, by go_num, rfl, Lib.hid (by have h := hn.out; simpa using h), HW3, HB3⟩
              case measure => simp [intOf]
            · have j0' : ¬ (j : Int) = 0 := by omega
              generalize lft x j = t at *
              go_wp2_with fail
              go_roundw
              case rel => exact ⟨_, (j : Int) - 1, by omega, rfl, rfl, hn, HW3, HB3⟩
              case measure => first | (simp [intOf]; done) | (simp [intOf]; omega)
        · obtain rfl : k = -1 := by omega
          obtain ⟨l0, c0, c1⟩ := HW2.out
          rcases HT L hL.out with ⟨rfl, hp⟩ | ⟨pp, g3, gw, hp, hx2, g1, g2⟩
          · have hpw : pw = 0 := by rw [← hpw, hp]
            have hpb : pb = false := by rw [← hpb, hp]
            subst hpw hpb
            clear hp
            go_wp2_with fail
            go_roundw
            case rel => exact ⟨1, by omega, by go_num, HW2, HB2⟩
            case measure => simp [intOf]
          · have hpw : pw = pp := by rw [← hpw, hp]
            have hpb : pb = true := by rw [← hpb, hp]
            subst hpw hpb
            have HE := HE pw gw
            rw [hx2] at HE
            clear hp hx2
            go_wp2_with fail
            refine (HE _).out.mono ?_
            rintro e' v6 ⟨rfl, rfl⟩
            go_wp2_with fail
            go_roundw
            case rel => exact ⟨1, by omega, by go_num, HW2, HB2⟩
            case measure => simp [intOf]
    · have HS := HS y HYW.out
      have HP := HP y HYW.out
      have HT := fun L h => Least.tells' (L := L) HYW.out h
      have HSt := Lib.hid (Least.start y)
      obtain ⟨l0, c0, c1⟩ := HW'.out
      go_wp2_with fail
      refine (HP _).out.mono ?_
      rintro e' v4 ⟨rfl, rfl⟩
      clear l0 c0 c1
      generalize hpw : (pack y).1 = pw at *
      generalize hpb : (pack y).2 = pb at *
      go_wp2_with fail
      go_loopw [13, 14] (fun s i wr => ∃ (L : Int) (k : Int), (-1 ≤ k ∧ k ≤ 15) ∧ i = .int .i64 k ∧ s = .int .i64 L ∧ Hid (Least y L k) ∧ Hid (Wx wr Q x y) ∧ Hid (Below w.heap.size w wr)) (fun _ i _ => (intOf i + 1).toNat)
      case atStart => exact ⟨-1, 15, by omega, rfl, rfl, HSt, HW', HB'⟩
      case round =>
        obtain ⟨L, k, hk, rfl, rfl, hL, HW2, HB2⟩ := hrel
        clear HW' HB' HSt
        by_cases hk0 : 0 ≤ k
        · obtain ⟨j, rfl⟩ := Int.eq_ofNat_of_zero_le hk0
          have hj : j < 16 := by omega
          obtain ⟨l0, c0, c1⟩ := HW2.out
          have f1 : wrap64 (2 * (j : Int)) = 2 * j := by unfold wrap64; omega
          have f2 : wrap64 (32 - 2 * (j : Int)) = 32 - 2 * j := by unfold wrap64; omega
          have f3 : wrap64 ((j : Int) - 1) = j - 1 := by unfold wrap64; omega
          go_wp2_with fail
          obtain ⟨cb, hcb⟩ := HS j hj _
          refine hcb.out.mono ?_
          rintro e' v5 ⟨rfl, hb⟩
          have HW3 := Lib.hid (HW2.out.keep hb)
          have HB3 := Lib.hid (below_then HB2.out HB2.out.size hb)
          clear hb l0 c0 c1 hcb HW2 HB2
          obtain ⟨l0, c0, c1⟩ := HW3.out
          by_cases hl : lft y j < 256
          · have hn := Lib.hid (hL.out.hit hj hl)
            by_cases j0 : j = 0
            · subst j0
              have he : y < 256 := by have h := hl; rw [show lft y 0 = y from rot_full HYW.out] at h; exact h
              have j0' : ((0 : Nat) : Int) = 0 := rfl
              generalize lft y 0 = t at *
              go_wp2_with fail
              go_roundw
              case rel => exact ⟨_, -1, by omega, by go_num, rfl, Lib.hid (by have h := hn.out; simpa using h), HW3, HB3⟩
              case measure => simp [intOf]
            · have j0' : ¬ (j : Int) = 0 := by omega
              generalize lft y j = t at *
              go_wp2_with fail
              go_roundw
              case rel => exact ⟨_, (j : Int) - 1, by omega, rfl, rfl, hn, HW3, HB3⟩
              case measure => first | (simp [intOf]; done) | (simp [intOf]; omega)
          · have hn := Lib.hid (hL.out.miss hj hl)
            by_cases j0 : j = 0
            · subst j0
              have he : ¬ y < 256 := by have h := hl; rw [show lft y 0 = y from rot_full HYW.out] at h; exact h
              have j0' : ((0 : Nat) : Int) = 0 := rfl
              generalize lft y 0 = t at *
              go_wp2_with fail
              go_roundw
              case rel => exact ⟨_, -1, by omega, by go_num, rfl, Lib.hid (by have h := hn.out; simpa using h), HW3, HB3⟩
              case measure => simp [intOf]
            · have j0' : ¬ (j : Int) = 0 := by omega
              generalize lft y j = t at *
              go_wp2_with fail
              go_roundw
              case rel => exact ⟨_, (j : Int) - 1, by omega, rfl, rfl, hn, HW3, HB3⟩
              case measure => first | (simp [intOf]; done) | (simp [intOf]; omega)
        · obtain rfl : k = -1 := by omega
          obtain ⟨l0, c0, c1⟩ := HW2.out
          rcases HT L hL.out with ⟨rfl, hp⟩ | ⟨pp, g3, gw, hp, hx2, g1, g2⟩
          · have hpw : pw = 0 := by rw [← hpw, hp]
            have hpb : pb = false := by rw [← hpb, hp]
            subst hpw hpb
            clear hp
            go_wp2_with fail
            go_roundw
            case rel => exact ⟨2, by omega, by go_num, HW2, HB2⟩
            case measure => simp [intOf]
          · have hpw : pw = pp := by rw [← hpw, hp]
            have hpb : pb = true := by rw [← hpb, hp]
            subst hpw hpb
            have HE := HE pw gw
            rw [hx2] at HE
            clear hp hx2
            go_wp2_with fail
            refine (HE _).out.mono ?_
            rintro e' v6 ⟨rfl, rfl⟩
            go_wp2_with fail
            go_roundw
            case rel => exact ⟨2, by omega, by go_num, HW2, HB2⟩
            case measure => simp [intOf]
    · go_wp2_with fail
      go_ret
      exact ⟨rfl, HB'.out⟩
end Go.Proofs.Yteakgeplefjncaa
