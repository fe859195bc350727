/- The walk of SpansLeast. -/
import Derived.Test.YthkolpjbkbcmbaaGap
import Derived.Test.YthkolpjbkbcmbaaLive
import Derived.Deep.CutBlock
import Derived.Deep.CutRange
set_option linter.unusedVariables false
set_option linter.unusedSimpArgs false
namespace Go.Proofs.Ythkolpjbkbcmbaa
open Go.RowKit

set_option maxRecDepth 100000 in
set_option maxHeartbeats 4000000 in
theorem least_core (w : World) (A : Option Addr) (m c : Nat) (l : List Opn) (lo hi n a k : Int) (hln : l.length = m) (hm : m ≤ 10000000) (hs : Script w A c l)
    (hlo : inU lo) (hhi : inU hi) (hn : inU n) (ha : inU a) (hk : inU k) :
    Calls Try.prog 9 #[.slice A m c, .int .u64 lo, .int .u64 hi, .int .u64 n, .int .u64 a, .int .u64 k] w fun e w' => e = .returned (.bool true) ∧ Below w.heap.size w w' := by
  have hW := play_wf hs.2.2.1
  have hL : (play l).length ≤ 1000000000 := by have := play_length hs.2.2.1; omega
  have HLaid := Lib.hid (laid_core w A m c l hln (by omega) hs)
  have HGap := fun W (hM : MapAt W 0 w.heap.size (play l)) => Lib.hid (gap_calls W w.heap.size (play l) lo hi n a hM hW hL hlo hhi hn ha)
  have HFit := fun W (hM : MapAt W 0 w.heap.size (play l)) g (hg : inU g) => Lib.hid (fits_calls W w.heap.size (play l) g n hi hM hW hL hg hn hhi)
  clear hln hm hs hW hL
  generalize play l = L at *
  go_enter Try.func9, Try.ntmps9
  go_wp2_with fail
  refine HLaid.out.mono ?_
  rintro e w1 ⟨rfl, hM, hB⟩
  go_wp2_with fail
  refine (live_calls _).mono ?_
  rintro e w2 ⟨rfl, hb⟩
  have hB2 := below_then hB hB.size hb
  have hM2 := hM.below hb
  clear hM hB hb HLaid
  go_wp2_with fail
  refine (HGap _ hM2).out.mono ?_
  rintro e w3 ⟨g, ok, rfl, hG, hb⟩
  have hB3 := below_then hB2 hB2.size hb
  have hM3 := hM2.below hb
  clear hM2 hB2 hb HGap
  by_cases hz : n = 0 ∨ a = 0
  · have hG' : g = 0 ∧ ok = false := by unfold M.GapIs at hG; rw [if_pos hz] at hG; exact hG
    obtain ⟨rfl, rfl⟩ := hG'
    have hcase : ((n == 0) = true) ∨ ((n == 0) = false ∧ (a == 0) = true) := by
      by_cases h0 : n = 0
      · exact .inl (by simpa using h0)
      · exact .inr ⟨by simpa using h0, by rcases hz with h | h; exact absurd h h0; simpa using h⟩
    clear hz hG
    rcases hcase with q | ⟨q, q'⟩
    all_goals
      go_wp2_with fail
      go_ret
      exact ⟨rfl, hB3⟩
  · have hG' := hG
    unfold M.GapIs at hG'
    rw [if_neg hz] at hG'
    have qn : (n == 0) = false := by simp; omega
    have qa : (a == 0) = false := by simp; omega
    by_cases hlh : hi < lo
    · have hG2 : g = 0 ∧ ok = false := by
        rcases hG' with ⟨_, _, h2, _, h3, _⟩ | ⟨h1, h2, _⟩
        · have := h3.1; omega
        · exact ⟨h2, h1⟩
      obtain ⟨rfl, rfl⟩ := hG2
      clear hz hG hG'
      go_wp2_with fail
      go_ret
      exact ⟨rfl, hB3⟩
    · have a1 : 1 ≤ a := by have := ha.1; omega
      have a2 : a ≤ 18446744073709551615 := ha.2
      have k1 := hk.1
      have k2 : k ≤ 18446744073709551615 := hk.2
      have l1 := hlo.1
      have l2 : lo ≤ 18446744073709551615 := hlo.2
      have r0 := Int.emod_nonneg lo (show a ≠ 0 by omega)
      have r1 := Int.emod_lt_of_pos lo (show 0 < a by omega)
      have s0 := Int.emod_nonneg k (show a ≠ 0 by omega)
      have s1 := Int.emod_lt_of_pos k (show 0 < a by omega)
      have s2 : k % a ≤ k := by have := Int.mul_ediv_add_emod k a; have : 0 ≤ a * (k / a) := Int.mul_nonneg (by omega) (Int.ediv_nonneg k1 (by omega)); omega
      have hdl : a ∣ k - k % a := ⟨k / a, by have := Int.mul_ediv_add_emod k a; omega⟩
      have hda : a ∣ lo + (a - lo % a) := M.mult_at
      have hB3s := hB3.size
      have hn0 : n ≠ 0 := fun h => hz (.inl h)
      have hn0 : n ≠ 0 := fun h => hz (.inl h)
      have hn0 : n ≠ 0 := fun h => hz (.inl h)
      have hn0 : n ≠ 0 := fun h => hz (.inl h)
      have hn0 : n ≠ 0 := fun h => hz (.inl h)
      have hn0 : n ≠ 0 := fun h => hz (.inl h)
      clear hz hG
      have HB3 := Lib.hid hB3
      clear hB3
      rcases hG' with ⟨rfl, g1, g2, g3, g4, g5⟩ | ⟨rfl, rfl, g5⟩
      · have qg : (g % a == 0) = true := by simpa using Int.emod_eq_zero_of_dvd g1
        have qg2 : (g % a != 0) = false := by simpa using Int.emod_eq_zero_of_dvd g1
        have HG1 := Lib.hid g1
        have HG4 := Lib.hid g4
        have ql : ¬ g < lo := by omega
        have g3' : g ≤ 18446744073709551615 := g3
        have hfit := HFit _ hM3 g ⟨by omega, g3⟩
        clear g1 g4
        go_upto_region 7 with fail
        go_wp2_with fail
        refine hfit.out.mono ?_
        rintro e w4 ⟨rfl, hb⟩
        have hf : good L hi n g = true := (good_iff L hi n g).2 ⟨hn0, HG4.out⟩
        rw [hf]
        clear hf hfit
        have hB4 := below_then HB3.out hB3s hb
        have hM4 := hM3.below hb
        clear hb HG4 hM3 HB3 hB3s qg
        have hS4 := hB4.size
        have HB4 := Lib.hid hB4
        clear hB4
        have HM4 := Lib.hid hM4
        clear hM4
        have hH0 := Lib.hid (World.ownsRow_nil w4 w4.heap.size 27 1)
        go_upto_if 81 with fail
        go_cut [16] from 78 to 103 (fun v wx => ∃ l, RowU wx w4.heap.size v l ∧ Below w4.heap.size w4 wx ∧ w4.heap.size ≤ wx.heap.size ∧ l.length ≤ 1 ∧ ∀ t ∈ l, a ∣ t)
        case first =>
          by_cases q0 : lo % a = 0
          · have q : (lo % a == 0) = true := by simpa using q0
            have hdl2 : a ∣ lo := Int.dvd_of_emod_eq_zero q0
            have HD := Lib.hid hdl2
            clear q0 hdl2 hda hdl g5 HFit
            go_wp2_with (first | (at_builtin; (refine app_key w4.heap.size rfl (.tmp 82) (.tmp 84) rfl _ [] (lo) rfl rfl (by simp) ⟨hH0.out, by simp⟩ hlo (by simp) (Below.refl _ _) (Nat.le_refl _) ?_); intro v' w' hR hbb hBB))
            go_meet
            exact ⟨_, hR, hbb, hBB, by simp, by simpa using HD.out⟩
          · have q : (lo % a == 0) = false := by simpa using q0
            by_cases q1 : lo ≤ 18446744073709551615 - (a - lo % a)
            · have HD := Lib.hid hda
              have hx : inU (lo + (a - lo % a)) := ⟨by omega, by unfold M.top; omega⟩
              clear q0 hda hdl g5 HFit
              go_wp2_with (first | (at_builtin; (refine app_key w4.heap.size rfl (.tmp 94) (.tmp 102) rfl _ [] (lo + (a - lo % a)) rfl rfl (by simp) ⟨hH0.out, by simp⟩ hx (by simp) (Below.refl _ _) (Nat.le_refl _) ?_); intro v' w' hR hbb hBB))
              go_meet
              exact ⟨_, hR, hbb, hBB, by simp, by simpa using HD.out⟩
            · clear q0 hda hdl g5 HFit
              go_wp2_with fail
              go_meet
              exact ⟨[], ⟨hH0.out, by simp⟩, Below.refl _ _, Nat.le_refl _, by simp, by simp⟩
        case rest =>
          obtain ⟨l1, hR1, hb1, hB1, hl1, hd1⟩ := hcut
          clear hH0
          have HR1 := Lib.hid hR1
          have hx : inU (k - k % a) := ⟨by omega, by unfold M.top; omega⟩
          have HD1 := Lib.hid (show ∀ t ∈ l1 ++ [k - k % a], a ∣ t by intro t ht; rcases List.mem_append.1 ht with h | h; exact hd1 t h; rw [List.mem_singleton.1 h]; exact hdl)
          clear hdl hd1 hR1 hda
          have HG5 := Lib.hid g5
          clear g5
          have HF := fun W (hb : Below w4.heap.size w4 W) => HFit W (HM4.out.below hb)
          clear HFit
          go_upto_if 117 with (first | (at_builtin; (refine app_key w4.heap.size rfl (.tmp 104) (.tmp 110) rfl _ l1 (k - k % a) rfl rfl (by simp) HR1.out hx (by omega) hb1 hB1 ?_); intro v' w' hR hbb hBB))
          have HR2 := Lib.hid hR
          clear hR HR1 hb1 hB1
          go_cut [16] from 112 to 123 (fun v wx => ∃ l, RowU wx w4.heap.size v l ∧ Below w4.heap.size w4 wx ∧ w4.heap.size ≤ wx.heap.size ∧ l.length ≤ 3 ∧ ∀ t ∈ l, a ∣ t)
          case first =>
            by_cases q1 : a ≤ g
            · have hxg : inU (g - a) := ⟨by omega, by unfold M.top; omega⟩
              go_wp2_with (first | (at_builtin; (refine app_key w4.heap.size rfl (.tmp 118) (.tmp 122) rfl _ (l1 ++ [k - k % a]) (g - a) rfl rfl (by simp) HR2.out hxg (by simp; omega) hbb hBB ?_); intro v' w' hR hbb hBB))
              go_meet
              refine ⟨_, hR, hbb, hBB, by simp; omega, ?_⟩
              intro t ht; rcases List.mem_append.1 ht with h | h; exact HD1.out t h; rw [List.mem_singleton.1 h]; exact Int.dvd_sub HG1.out (Int.dvd_refl a)
            · go_wp2_with fail
              go_meet
              exact ⟨_, HR2.out, hbb, hBB, by simp; omega, HD1.out⟩
          case rest =>
            clear HR2 HD1 hbb hBB
            obtain ⟨l2, hR2, hb2, hB2, hl2, hd2⟩ := hcut
            have HR3 := Lib.hid hR2.read
            have HU := Lib.hid hR2.2
            have HD2 := Lib.hid hd2
            clear hR2 hd2
            have HRR := HR3.out
            obtain ⟨Al, cl, rfl, hcell⟩ := HRR
            clear HR3
            generalize hll : l2.length = ml at *
            have HLL := Lib.hid hll
            clear hll hl1
            go_wp2_with fail
            skip
            go_loopw [17] (fun i wr => ∃ j : Nat, j ≤ ml ∧ i = .int .i64 j ∧ Below wc.heap.size wc wr) (fun i _ => ml - (intOf i).toNat)
            case atStart => exact ⟨0, Nat.zero_le _, rfl, Below.refl _ _⟩
            case round =>
              obtain ⟨j, hj, rfl, hb⟩ := hrel
              by_cases hjm : j < ml
              · obtain ⟨x, hx⟩ : ∃ x, l2[j]? = some x := ⟨_, List.getElem?_eq_getElem (by rw [HLL.out]; exact hjm)⟩
                obtain ⟨gb, rfl, _, hgl, c0⟩ := hcell j x hx
                have hxm := List.mem_of_getElem? hx
                have t0 := (hb.cell (p := ⟨gb, j, none⟩) hgl).trans c0
                have hxu := HU.out x hxm
                have x0 := hxu.1
                have hdx := Lib.hid (HD2.out x hxm)
                have hfx := HF wr (below_then hb2 hB2 hb) x hxu
                clear hx hxm c0 hxu
                by_cases qx : x < lo
                · go_wp2_with fail
                  go_roundw
                  case rel => exact ⟨j + 1, by omega, by go_num, hb⟩
                  case measure => simp [intOf]; omega
                · by_cases qy : x < g
                  · have hf : good L hi n x = false := Bool.eq_false_iff.2 fun h => HG5.out x hdx.out (by omega) qy ((good_iff _ _ _ _).1 h).2
                    rw [hf] at hfx
                    clear hf
                    go_wp2_with fail
                    refine hfx.out.mono ?_
                    rintro e w' ⟨rfl, hb'⟩
                    have hb3 := below_then hb hb.size hb'
                    go_wp2_with fail
                    go_roundw
                    case rel => exact ⟨j + 1, by omega, by go_num, hb3⟩
                    case measure => simp [intOf]; omega
                  · go_wp2_with fail
                    go_roundw
                    case rel => exact ⟨j + 1, by omega, by go_num, hb⟩
                    case measure => simp [intOf]; omega
              · obtain rfl : j = ml := by omega
                go_wp2_with fail
                go_ret
                exact ⟨rfl, below_then HB4.out hS4 (below_then hb2 hB2 hb)⟩
      · obtain ⟨w4, hw4⟩ : ∃ w4, w4 = w3 := ⟨_, rfl⟩
        subst hw4
        have hB4 := HB3.out
        have hM4 := hM3
        clear hM3 HB3 hB3s
        have hS4 := hB4.size
        have HB4 := Lib.hid hB4
        clear hB4
        have HM4 := Lib.hid hM4
        clear hM4
        have hH0 := Lib.hid (World.ownsRow_nil w4 w4.heap.size 27 1)
        go_upto_if 81 with fail
        go_cut [16] from 78 to 103 (fun v wx => ∃ l, RowU wx w4.heap.size v l ∧ Below w4.heap.size w4 wx ∧ w4.heap.size ≤ wx.heap.size ∧ l.length ≤ 1 ∧ ∀ t ∈ l, a ∣ t)
        case first =>
          by_cases q0 : lo % a = 0
          · have q : (lo % a == 0) = true := by simpa using q0
            have hdl2 : a ∣ lo := Int.dvd_of_emod_eq_zero q0
            have HD := Lib.hid hdl2
            clear q0 hdl2 hda hdl g5 HFit
            go_wp2_with (first | (at_builtin; (refine app_key w4.heap.size rfl (.tmp 82) (.tmp 84) rfl _ [] (lo) rfl rfl (by simp) ⟨hH0.out, by simp⟩ hlo (by simp) (Below.refl _ _) (Nat.le_refl _) ?_); intro v' w' hR hbb hBB))
            go_meet
            exact ⟨_, hR, hbb, hBB, by simp, by simpa using HD.out⟩
          · have q : (lo % a == 0) = false := by simpa using q0
            by_cases q1 : lo ≤ 18446744073709551615 - (a - lo % a)
            · have HD := Lib.hid hda
              have hx : inU (lo + (a - lo % a)) := ⟨by omega, by unfold M.top; omega⟩
              clear q0 hda hdl g5 HFit
              go_wp2_with (first | (at_builtin; (refine app_key w4.heap.size rfl (.tmp 94) (.tmp 102) rfl _ [] (lo + (a - lo % a)) rfl rfl (by simp) ⟨hH0.out, by simp⟩ hx (by simp) (Below.refl _ _) (Nat.le_refl _) ?_); intro v' w' hR hbb hBB))
              go_meet
              exact ⟨_, hR, hbb, hBB, by simp, by simpa using HD.out⟩
            · clear q0 hda hdl g5 HFit
              go_wp2_with fail
              go_meet
              exact ⟨[], ⟨hH0.out, by simp⟩, Below.refl _ _, Nat.le_refl _, by simp, by simp⟩
        case rest =>
          obtain ⟨l1, hR1, hb1, hB1, hl1, hd1⟩ := hcut
          clear hH0
          have HR1 := Lib.hid hR1
          have hx : inU (k - k % a) := ⟨by omega, by unfold M.top; omega⟩
          have HD1 := Lib.hid (show ∀ t ∈ l1 ++ [k - k % a], a ∣ t by intro t ht; rcases List.mem_append.1 ht with h | h; exact hd1 t h; rw [List.mem_singleton.1 h]; exact hdl)
          clear hdl hd1 hR1 hda
          have HG5 := Lib.hid g5
          clear g5
          have HF := fun W (hb : Below w4.heap.size w4 W) => HFit W (HM4.out.below hb)
          clear HFit
          go_upto_if 117 with (first | (at_builtin; (refine app_key w4.heap.size rfl (.tmp 104) (.tmp 110) rfl _ l1 (k - k % a) rfl rfl (by simp) HR1.out hx (by omega) hb1 hB1 ?_); intro v' w' hR hbb hBB))
          have HR2 := Lib.hid hR
          clear hR HR1 hb1 hB1
          go_cut [16] from 112 to 123 (fun v wx => ∃ l, RowU wx w4.heap.size v l ∧ Below w4.heap.size w4 wx ∧ w4.heap.size ≤ wx.heap.size ∧ l.length ≤ 3 ∧ ∀ t ∈ l, a ∣ t)
          case first =>
            go_wp2_with fail
            go_meet
            exact ⟨_, HR2.out, hbb, hBB, by simp; omega, HD1.out⟩
          case rest =>
            clear HR2 HD1 hbb hBB
            obtain ⟨l2, hR2, hb2, hB2, hl2, hd2⟩ := hcut
            have HR3 := Lib.hid hR2.read
            have HU := Lib.hid hR2.2
            have HD2 := Lib.hid hd2
            clear hR2 hd2
            have HRR := HR3.out
            obtain ⟨Al, cl, rfl, hcell⟩ := HRR
            clear HR3
            generalize hll : l2.length = ml at *
            have HLL := Lib.hid hll
            clear hll hl1
            go_wp2_with fail
            skip
            go_loopw [17] (fun i wr => ∃ j : Nat, j ≤ ml ∧ i = .int .i64 j ∧ Below wc.heap.size wc wr) (fun i _ => ml - (intOf i).toNat)
            case atStart => exact ⟨0, Nat.zero_le _, rfl, Below.refl _ _⟩
            case round =>
              obtain ⟨j, hj, rfl, hb⟩ := hrel
              by_cases hjm : j < ml
              · obtain ⟨x, hx⟩ : ∃ x, l2[j]? = some x := ⟨_, List.getElem?_eq_getElem (by rw [HLL.out]; exact hjm)⟩
                obtain ⟨gb, rfl, _, hgl, c0⟩ := hcell j x hx
                have hxm := List.mem_of_getElem? hx
                have t0 := (hb.cell (p := ⟨gb, j, none⟩) hgl).trans c0
                have hxu := HU.out x hxm
                have x0 := hxu.1
                have hdx := Lib.hid (HD2.out x hxm)
                have hfx := HF wr (below_then hb2 hB2 hb) x hxu
                clear hx hxm c0 hxu
                by_cases qx : x < lo
                · go_wp2_with fail
                  go_roundw
                  case rel => exact ⟨j + 1, by omega, by go_num, hb⟩
                  case measure => simp [intOf]; omega
                · have hf : good L hi n x = false := Bool.eq_false_iff.2 fun h => HG5.out x hdx.out (by omega) ((good_iff _ _ _ _).1 h).2
                  rw [hf] at hfx
                  clear hf
                  go_wp2_with fail
                  refine hfx.out.mono ?_
                  rintro e w' ⟨rfl, hb'⟩
                  have hb3 := below_then hb hb.size hb'
                  go_wp2_with fail
                  go_roundw
                  case rel => exact ⟨j + 1, by omega, by go_num, hb3⟩
                  case measure => simp [intOf]; omega
              · obtain rfl : j = ml := by omega
                go_wp2_with fail
                go_ret
                exact ⟨rfl, below_then HB4.out hS4 (below_then hb2 hB2 hb)⟩
end Go.Proofs.Ythkolpjbkbcmbaa
