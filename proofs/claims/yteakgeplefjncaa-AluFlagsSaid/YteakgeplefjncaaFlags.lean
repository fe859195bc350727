/- The walk of AluFlags; of the reference's Word. -/
import Derived.Test.YteakgeplefjncaaPassed
set_option linter.unusedVariables false
set_option linter.unusedSimpArgs false
namespace Go.Proofs.Yteakgeplefjncaa
open Go.RowKit

set_option maxRecDepth 100000 in
set_option maxHeartbeats 1000000 in
theorem ref_word_calls (w : World) (f : F) :
    Calls Try.prog 34 #[f.val] w fun e w' => e = .returned (u (wd f 4)) ∧ Below w.heap.size w w' := by
  obtain ⟨n, z, c, v⟩ := f
  have o0 : bits .or .u32 0 268435456 = 268435456 := by rw [or_comm_u32 ⟨by omega, by omega⟩ ⟨by omega, by omega⟩, or_u32 28 (by omega) (by decide) (by omega) (by omega) (by omega) (by omega)]; rfl
  have o1 : Hid (bits .or .u32 (wd ⟨n, z, c, v⟩ 1) 536870912 = wd ⟨n, z, c, v⟩ 1 + 536870912) := Lib.hid (by
    have : 0 ≤ wd ⟨n, z, c, v⟩ 1 ∧ wd ⟨n, z, c, v⟩ 1 < 536870912 := by cases v <;> simp [wd, bi]
    rw [or_comm_u32 ⟨by omega, by omega⟩ ⟨by omega, by omega⟩, or_u32 29 (by omega) (by decide) (by omega) (by omega) (by omega) (by omega)]; omega)
  have o2 : Hid (bits .or .u32 (wd ⟨n, z, c, v⟩ 2) 1073741824 = wd ⟨n, z, c, v⟩ 2 + 1073741824) := Lib.hid (by
    have : 0 ≤ wd ⟨n, z, c, v⟩ 2 ∧ wd ⟨n, z, c, v⟩ 2 < 1073741824 := by cases v <;> cases c <;> simp [wd, bi]
    rw [or_comm_u32 ⟨by omega, by omega⟩ ⟨by omega, by omega⟩, or_u32 30 (by omega) (by decide) (by omega) (by omega) (by omega) (by omega)]; omega)
  have o3 : Hid (bits .or .u32 (wd ⟨n, z, c, v⟩ 3) 2147483648 = wd ⟨n, z, c, v⟩ 3 + 2147483648) := Lib.hid (by
    have : 0 ≤ wd ⟨n, z, c, v⟩ 3 ∧ wd ⟨n, z, c, v⟩ 3 < 2147483648 := by cases v <;> cases c <;> cases z <;> simp [wd, bi]
    rw [or_comm_u32 ⟨by omega, by omega⟩ ⟨by omega, by omega⟩, or_u32 31 (by omega) (by decide) (by omega) (by omega) (by omega) (by omega)]; omega)
  have s0 : Hid (wd ⟨n, z, c, v⟩ 1 = bi v 268435456) := Lib.hid rfl
  have s1 : Hid (wd ⟨n, z, c, v⟩ 2 = wd ⟨n, z, c, v⟩ 1 + bi c 536870912) := Lib.hid rfl
  have s2 : Hid (wd ⟨n, z, c, v⟩ 3 = wd ⟨n, z, c, v⟩ 2 + bi z 1073741824) := Lib.hid rfl
  have s3 : Hid (wd ⟨n, z, c, v⟩ 4 = wd ⟨n, z, c, v⟩ 3 + bi n 2147483648) := Lib.hid rfl
  have sz : Hid (wd ⟨n, z, c, v⟩ 0 = 0) := Lib.hid rfl
  generalize wd ⟨n, z, c, v⟩ = W at *
  simp only [F.val]
  go_enter Try.func34, Try.ntmps34
  go_wp2_with fail
  go_loopw [4, 5] (fun a i wr => ∃ k : Int, (0 ≤ k ∧ k ≤ 4) ∧ i = .int .i64 k ∧ a = u (W k.toNat) ∧ wr = (w.alloc (.cells #[.bool n, .bool z, .bool c, .bool v] 25)).alloc (.cells #[.bool v, .bool c, .bool z, .bool n] 4)) (fun _ i _ => 4 - (intOf i).toNat)
  case atStart => exact ⟨0, by omega, rfl, by show _ = u (W 0); rw [sz.out], rfl⟩
  case round =>
    obtain ⟨k, hk, rfl, rfl, rfl⟩ := hrel
    rcases (show k = 0 ∨ k = 1 ∨ k = 2 ∨ k = 3 ∨ k = 4 by omega) with rfl | rfl | rfl | rfl | rfl
    · have e0 : u (W (Int.toNat 0)) = u 0 := by show u (W 0) = _; rw [sz.out]
      rw [e0]
      clear e0
      cases v with
      | true =>
        have e : Hid (W 1 = 268435456) := Lib.hid s0.out
        go_wp2_with fail
        go_roundw
        case rel => exact ⟨1, by omega, rfl, by show _ = u (W 1); rw [e.out]; try rfl, trivial⟩
        case measure => simp [intOf]
      | false =>
        have e : Hid (W 1 = 0) := Lib.hid s0.out
        go_wp2_with fail
        go_roundw
        case rel => exact ⟨1, by omega, rfl, by show _ = u (W 1); rw [e.out]; try rfl, trivial⟩
        case measure => simp [intOf]
    · cases c with
      | true =>
        have e : Hid (W 2 = bits .or .u32 (W 1) 536870912) := Lib.hid (by rw [o1.out, s1.out]; rfl)
        go_wp2_with fail
        go_roundw
        case rel => exact ⟨2, by omega, rfl, by show _ = u (W 2); rw [e.out]; try rfl, trivial⟩
        case measure => simp [intOf]
      | false =>
        have e : Hid (W 2 = W 1) := Lib.hid (by rw [s1.out]; simp [bi])
        go_wp2_with fail
        go_roundw
        case rel => exact ⟨2, by omega, rfl, by show _ = u (W 2); rw [e.out]; try rfl, trivial⟩
        case measure => simp [intOf]
    · cases z with
      | true =>
        have e : Hid (W 3 = bits .or .u32 (W 2) 1073741824) := Lib.hid (by rw [o2.out, s2.out]; rfl)
        go_wp2_with fail
        go_roundw
        case rel => exact ⟨3, by omega, rfl, by show _ = u (W 3); rw [e.out]; try rfl, trivial⟩
        case measure => simp [intOf]
      | false =>
        have e : Hid (W 3 = W 2) := Lib.hid (by rw [s2.out]; simp [bi])
        go_wp2_with fail
        go_roundw
        case rel => exact ⟨3, by omega, rfl, by show _ = u (W 3); rw [e.out]; try rfl, trivial⟩
        case measure => simp [intOf]
    · cases n with
      | true =>
        have e : Hid (W 4 = bits .or .u32 (W 3) 2147483648) := Lib.hid (by rw [o3.out, s3.out]; rfl)
        go_wp2_with fail
        go_roundw
        case rel => exact ⟨4, by omega, rfl, by show _ = u (W 4); rw [e.out]; try rfl, trivial⟩
        case measure => simp [intOf]
      | false =>
        have e : Hid (W 4 = W 3) := Lib.hid (by rw [s3.out]; simp [bi])
        go_wp2_with fail
        go_roundw
        case rel => exact ⟨4, by omega, rfl, by show _ = u (W 4); rw [e.out]; try rfl, trivial⟩
        case measure => simp [intOf]
    · go_wp2_with fail
      go_ret
      exact ⟨rfl, ((Below.refl _ _).alloc (Nat.le_refl _) _).alloc (by simp) _⟩

theorem wd_w (f : F) : W32 (wd f 4) := by obtain ⟨n, z, c, v⟩ := f; cases n <;> cases z <;> cases c <;> cases v <;> exact ⟨by decide, by decide⟩
theorem flags_wd (f : F) : flagsOf (wd f 4) = f := by obtain ⟨n, z, c, v⟩ := f; cases n <;> cases z <;> cases c <;> cases v <;> rfl
theorem wd_flags {x : Int} (hx : W32 x) : wd (flagsOf x) 4 = bits .and .u32 x 4026531840 := by
  obtain ⟨x0, x1⟩ := hx
  obtain ⟨a, rfl⟩ := Int.eq_ofNat_of_zero_le x0
  have ha : a < 2 ^ 32 := by omega
  have e := and_nat a 4026531840 ha (by decide)
  rw [show ((4026531840 : Nat) : Int) = 4026531840 from rfl] at e
  rw [e]
  have h1 : (a &&& 4026531840) % 2 ^ 28 = 0 := by rw [Nat.and_mod_two_pow]; simp
  have h2 : (a &&& 4026531840) / 2 ^ 28 = a / 2 ^ 28 := by
    rw [← Nat.shiftRight_eq_div_pow, Nat.shiftRight_and_distrib, Nat.shiftRight_eq_div_pow, Nat.shiftRight_eq_div_pow]
    have := Nat.and_two_pow_sub_one_eq_mod (a / 2 ^ 28) 4
    rw [show 4026531840 / 2 ^ 28 = 2 ^ 4 - 1 from rfl, this]
    omega
  obtain ⟨q, hq⟩ : ∃ q, a / 2 ^ 28 = q := ⟨_, rfl⟩
  rw [hq] at h2
  have h3 : (a &&& 4026531840) = q * 268435456 := by omega
  rw [h3]
  have q16 : q < 16 := by omega
  have g1 : (a : Int) / 2147483648 % 2 = (q / 8 % 2 : Nat) := by omega
  have g2 : (a : Int) / 1073741824 % 2 = (q / 4 % 2 : Nat) := by omega
  have g3 : (a : Int) / 536870912 % 2 = (q / 2 % 2 : Nat) := by omega
  have g4 : (a : Int) / 268435456 % 2 = (q % 2 : Nat) := by omega
  show wd ⟨(a : Int) / 2147483648 % 2 == 1, (a : Int) / 1073741824 % 2 == 1, (a : Int) / 536870912 % 2 == 1, (a : Int) / 268435456 % 2 == 1⟩ 4 = _
  rw [g1, g2, g3, g4]
  clear g1 g2 g3 g4 h1 h2 h3 hq e ha x0 x1
  have : ∀ q : Fin 16, wd ⟨((q.val / 8 % 2 : Nat) : Int) == 1, ((q.val / 4 % 2 : Nat) : Int) == 1, ((q.val / 2 % 2 : Nat) : Int) == 1, ((q.val % 2 : Nat) : Int) == 1⟩ 4 = ((q.val * 268435456 : Nat) : Int) := by decide +kernel
  exact this ⟨q, q16⟩

set_option maxRecDepth 100000 in
set_option maxHeartbeats 4000000 in
theorem flags_core (w : World) (x : Int) (f : F) (hx : W32 x) :
    Calls Try.prog 14 #[u x, f.val] w fun e w' => e = .returned (.bool true) ∧ Below w.heap.size w w' := by
  have H18 := fun w => Lib.hid (live_calls w)
  obtain ⟨W, hW⟩ : ∃ W : Bool → Bool → Bool → Bool → Int, ∀ n z c v, wd ⟨n, z, c, v⟩ 4 = W n z c v := ⟨_, fun _ _ _ _ => rfl⟩
  obtain ⟨Gn, Gz, Gc, Gv, hG⟩ : ∃ Gn Gz Gc Gv : Int → Bool, ∀ x, flagsOf x = ⟨Gn x, Gz x, Gc x, Gv x⟩ := ⟨fun x => (flagsOf x).n, fun x => (flagsOf x).z, fun x => (flagsOf x).c, fun x => (flagsOf x).v, fun _ => rfl⟩
  have A33 := fun w n z c v => word_calls w ⟨n, z, c, v⟩
  have A34 := fun w n z c v => ref_word_calls w ⟨n, z, c, v⟩
  have A35 := fun w x hx => flags_calls w x hx
  have A19 := fun w x hx => ref_flags_calls w x hx
  simp only [hW, hG, F.val] at A33 A34 A35 A19
  have A33 := fun w n z c v => Lib.hid (A33 w n z c v)
  have A34 := fun w n z c v => Lib.hid (A34 w n z c v)
  have A35 := fun w x hx => Lib.hid (A35 w x hx)
  have A19 := fun w x hx => Lib.hid (A19 w x hx)
  obtain ⟨n, z, c, v⟩ := f
  have hx2 : W32 (W n z c v) := by have h := wd_w ⟨n, z, c, v⟩; rw [hW] at h; exact h
  have e5 : F.mk (Gn (W n z c v)) (Gz (W n z c v)) (Gc (W n z c v)) (Gv (W n z c v)) = ⟨n, z, c, v⟩ := by have h := flags_wd ⟨n, z, c, v⟩; rw [hW, hG] at h; exact h
  injection e5 with k1 k2 k3 k4
  have k5 : W (Gn x) (Gz x) (Gc x) (Gv x) = bits .and .u32 x 4026531840 := by have h := wd_flags hx; rw [hG, hW] at h; exact h
  simp only [F.val]
  clear hW hG
  go_enter Try.func14, Try.ntmps14
  have d0 : (w.alloc (Obj.cells #[Value.bool n, Value.bool z, Value.bool c, Value.bool v] 25)).cell? ⟨w.heap.size, 0, none⟩ = some (.bool n) := by simp
  have d1 : (w.alloc (Obj.cells #[Value.bool n, Value.bool z, Value.bool c, Value.bool v] 25)).cell? ⟨w.heap.size, 1, none⟩ = some (.bool z) := by simp
  have d2 : (w.alloc (Obj.cells #[Value.bool n, Value.bool z, Value.bool c, Value.bool v] 25)).cell? ⟨w.heap.size, 2, none⟩ = some (.bool c) := by simp
  have d3 : (w.alloc (Obj.cells #[Value.bool n, Value.bool z, Value.bool c, Value.bool v] 25)).cell? ⟨w.heap.size, 3, none⟩ = some (.bool v) := by simp
  have hB : Below w.heap.size w (w.alloc (.cells #[.bool n, .bool z, .bool c, .bool v] 25)) := (Below.refl _ w).alloc (Nat.le_refl _) _
  have hlt : w.heap.size < (w.alloc (.cells #[.bool n, .bool z, .bool c, .bool v] 25)).heap.size := by simp
  go_upto_region 1 with fail
  generalize w.alloc (.cells #[.bool n, .bool z, .bool c, .bool v] 25) = w3 at *
  have HB := Lib.hid hB
  clear hB
  go_cut [4] from 5 to 34 (fun x wx => x = .bool true ∧ Hid (Below w3.heap.size w3 wx))
  case first =>
    go_region_held3 (fun w' => w'.cell? ⟨w.heap.size, 0, none⟩ = some (.bool n) ∧ w'.cell? ⟨w.heap.size, 1, none⟩ = some (.bool z) ∧ w'.cell? ⟨w.heap.size, 2, none⟩ = some (.bool c) ∧ w'.cell? ⟨w.heap.size, 3, none⟩ = some (.bool v))
      (first | exact ⟨d0, d1, d2, d3⟩ | exact box4 hlt hg.out ⟨d0, d1, d2, d3⟩ | fail)
      (first
        | (go_simp; go_at_call 18; refine (H18 _).out.mono ?_; rintro e w4 ⟨rfl, hb4⟩; have hg : Hid (Below w3.heap.size w3 w4) := (by first | exact Lib.hid (below_undrew hb4) | exact Lib.hid (below_then hg.out hg.out.size hb4) | fail); clear hb4; go_simp)
        | (go_simp; go_at_call 34; refine (A34 _ _ _ _ _).out.mono ?_; rintro e w4 ⟨rfl, hb4⟩; have hg : Hid (Below w3.heap.size w3 w4) := (by first | exact Lib.hid (below_undrew hb4) | exact Lib.hid (below_then hg.out hg.out.size hb4) | fail); clear hb4; go_simp)
        | (go_simp; go_at_call 19; refine (A19 _ _ hx).out.mono ?_; rintro e w4 ⟨rfl, hb4⟩; have hg : Hid (Below w3.heap.size w3 w4) := (by first | exact Lib.hid (below_undrew hb4) | exact Lib.hid (below_then hg.out hg.out.size hb4) | fail); clear hb4; go_simp)
        | (go_simp; go_at_call 33; refine (A33 _ _ _ _ _).out.mono ?_; rintro e w4 ⟨rfl, hb4⟩; have hg : Hid (Below w3.heap.size w3 w4) := (by first | exact Lib.hid (below_undrew hb4) | exact Lib.hid (below_then hg.out hg.out.size hb4) | fail); clear hb4; go_simp)
        | (go_simp; go_at_call 35; refine (A35 _ _ (by first | exact hx | exact hx2 | fail)).out.mono ?_; rintro e w4 ⟨rfl, hb4⟩; have hg : Hid (Below w3.heap.size w3 w4) := (by first | exact Lib.hid (below_undrew hb4) | exact Lib.hid (below_then hg.out hg.out.size hb4) | fail); clear hb4; go_simp))
    go_wp2_with fail
    go_meet
    exact ⟨rfl, hg⟩
  case rest =>
    obtain ⟨rfl, HB4⟩ := hcut
    go_wp2_with fail
    go_ret
    exact ⟨rfl, below_then HB.out HB.out.size HB4.out⟩
end Go.Proofs.Yteakgeplefjncaa
