/- SpansWithin, plainly: what lies from lo to hi of a list of spans; and the walk of the reference's Within. -/
import Derived.Test.YthkolpjbkbcmbaaDiffs
import Derived.BigRegion
import Derived.Deep.CutBlock
import Derived.Deep.CutRange
set_option linter.unusedVariables false
set_option linter.unusedSimpArgs false
namespace Go.Proofs.Ythkolpjbkbcmbaa
open Go.RowKit

/-- A span cut off at lo and hi. -/
def clip (lo hi : Int) (s : S) : S := ⟨if s.lo < lo then lo else s.lo, if hi < s.hi then hi else s.hi, s.v⟩
/-- Does some of it lie there? -/
def meets (lo hi : Int) (s : S) : Bool := decide (lo ≤ s.hi) && decide (s.lo ≤ hi)
/-- What lies from lo to hi. -/
def wthn (lo hi : Int) (L : List S) : List S := if hi < lo then [] else (L.filter (meets lo hi)).map (clip lo hi)

theorem wthn_length (lo hi : Int) (L : List S) : (wthn lo hi L).length ≤ L.length := by
  unfold wthn
  split
  · simp
  · rw [List.length_map]; exact List.length_filter_le _ _
theorem wthn_take (lo hi : Int) (h : ¬ hi < lo) (L : List S) (k : Nat) (s : S) (hs : L[k]? = some s) : wthn lo hi (L.take (k + 1)) = wthn lo hi (L.take k) ++ (if meets lo hi s then [clip lo hi s] else []) := by
  unfold wthn
  rw [if_neg h, if_neg h, M.take_snoc hs, List.filter_append, List.map_append]
  congr 1
  by_cases hm : meets lo hi s = true
  · simp [hm]
  · simp [hm]

/-- The spans from the place of lo on, as long as they begin at or below hi. -/
theorem wthn_from {lo hi : Int} (h : ¬ hi < lo) {L : List S} (hW : M.WF L) {j : Nat} (hj : idx L lo + j ≤ L.length) (hin : ∀ i s, i < j → L[idx L lo + i]? = some s → s.lo ≤ hi)
    (hend : idx L lo + j = L.length ∨ ∃ s, L[idx L lo + j]? = some s ∧ hi < s.lo) : wthn lo hi L = ((L.drop (idx L lo)).take j).map (clip lo hi) := by
  unfold wthn
  rw [if_neg h]
  congr 1
  have e : L = L.take (idx L lo) ++ ((L.drop (idx L lo)).take j ++ L.drop (idx L lo + j)) := by
    rw [← List.drop_drop, List.take_append_drop, List.take_append_drop]
  conv => lhs; rw [e]
  rw [List.filter_append, List.filter_append]
  have e1 : (L.take (idx L lo)).filter (meets lo hi) = [] := by
    rw [List.filter_eq_nil_iff]
    intro s hs hm
    obtain ⟨i, hi'⟩ := List.getElem?_of_mem hs
    have hlt : i < idx L lo := by
      have := (List.getElem?_eq_some_iff.1 hi').1
      rw [List.length_take] at this
      omega
    rw [List.getElem?_take_of_lt hlt] at hi'
    have := idx_lo hlt hi'
    unfold meets at hm
    simp at hm
    omega
  have e2 : ((L.drop (idx L lo)).take j).filter (meets lo hi) = (L.drop (idx L lo)).take j := by
    rw [List.filter_eq_self]
    intro s hs
    obtain ⟨i, hi'⟩ := List.getElem?_of_mem hs
    have hlt : i < j := by
      have := (List.getElem?_eq_some_iff.1 hi').1
      rw [List.length_take] at this
      omega
    rw [List.getElem?_take_of_lt hlt, List.getElem?_drop] at hi'
    have h1 := hin i s hlt hi'
    have h2 := idx_hi hW (k := lo) (Nat.le_add_right (idx L lo) i) hi'
    unfold meets
    simp
    omega
  have e3 : (L.drop (idx L lo + j)).filter (meets lo hi) = [] := by
    rw [List.filter_eq_nil_iff]
    intro s hs hm
    obtain ⟨i, hi'⟩ := List.getElem?_of_mem hs
    rw [List.getElem?_drop] at hi'
    rcases hend with hend | ⟨t, ht, hlt⟩
    · have := (List.getElem?_eq_some_iff.1 hi').1
      omega
    · unfold meets at hm
      simp at hm
      rcases Nat.eq_zero_or_pos i with rfl | hp
      · rw [Nat.add_zero, ht] at hi'
        injection hi' with hi'
        subst hi'
        omega
      · have hR := hW.lt ht hi' (by omega)
        have h1 := hR.1
        have h2 := (hW.1 t (List.mem_of_getElem? ht)).2.1
        omega
  rw [e1, e2, e3]
  simp

/-- The row of the first k. -/
theorem RowR.take {w : World} {B n c k : Nat} {A : Option Addr} {L : List S} (h : RowR w B (.slice A n c) L) (hn : L.length = n) (hk : k < n) : RowR w B (.slice A k c) (L.take k) := by
  subst hn
  have hl : (L.take k).length = k := by rw [List.length_take]; omega
  unfold RowR
  rw [hl]
  refine ⟨by rw [flat_length, hl], ?_⟩
  rcases h.2 with ⟨_, h0⟩ | ⟨g, cap, cur, hv, hbg, hg, hnc, hcm, hcs, htake⟩
  · omega
  · injection hv with e1 e2 e3
    refine .inr ⟨g, c, cur, by rw [e1], hbg, hg, by omega, by omega, by rw [e3]; exact hcs, ?_⟩
    have e : flat L = flat (L.take k) ++ flat (L.drop k) := by rw [← flat_append, List.take_append_drop]
    rw [e] at htake
    have h2 := congrArg (List.take (k * 3)) htake
    rw [List.take_take, Nat.min_eq_left (by omega), List.take_left' (by rw [flat_length, hl])] at h2
    exact h2

set_option maxRecDepth 100000 in
set_option maxHeartbeats 4000000 in
theorem rwithin_calls (w : World) (B p : Nat) (D : List M.Dn) (L : List S) (lo hi : Int) (hD : RefAt w B p D) (hn : D.length ≤ 100000000) (hL : L.length ≤ 1000000000) (hB0 : B ≤ w.heap.size) (hS : Same L D) :
    Calls Try.prog 39 #[.pointer (some ⟨p, 0, none⟩), .int .u64 lo, .int .u64 hi] w fun e w' => ∃ v, e = .returned v ∧ RowR w' w.heap.size v (wthn lo hi L) ∧ Below w.heap.size w w' := by
  have HSp := Lib.hid (rspans_same w B p D L hD hn hB0 hS)
  clear hD hn hB0 hS
  go_enter Try.func39, Try.ntmps39
  go_wp2_with fail
  refine HSp.out.mono ?_
  rintro e w1 ⟨A, c, rfl, hR, _, hb⟩
  have HR := Lib.hid hR
  have HB := Lib.hid hb
  have hz := hb.size
  clear hR hb HSp
  have HN := Lib.hid (show ∃ n, L.length = n from ⟨_, rfl⟩)
  obtain ⟨n, hn⟩ := HN.out
  clear HN
  rw [hn] at HR hL ⊢
  have HNL := Lib.hid hn
  clear hn
  obtain ⟨A', c', hv, hcell⟩ := HR.out.read
  injection hv with e1 e2 e3
  subst e1; subst e3
  clear e2
  go_wp2_with fail
  go_loopw [8, 9] (fun v i wr => ∃ j : Nat, j ≤ n ∧ i = .int .i64 j ∧ Hid (RowR wr w1.heap.size v (wthn lo hi (L.take j))) ∧ Hid (Below w1.heap.size w1 wr)) (fun _ i _ => n - (intOf i).toNat)
  case atStart => exact ⟨0, Nat.zero_le _, rfl, by rw [List.take_zero, show wthn lo hi [] = [] by unfold wthn; split <;> rfl]; exact RowR.nil _ _, Below.refl _ _⟩
  case round =>
    obtain ⟨j, hj, rfl, HRr, HB1⟩ := hrel
    have hlen : (wthn lo hi (L.take j)).length ≤ 2000000000 := by have := wthn_length lo hi (L.take j); have := List.length_take_le' j L; have := HNL.out; omega
    by_cases hlh : hi < lo
    · have HE := Lib.hid (show wthn lo hi (L.take j) = wthn lo hi L by unfold wthn; rw [if_pos hlh, if_pos hlh])
      rw [HE.out] at HRr
      have q0 : decide (lo ≤ hi) = false := by simpa using hlh
      clear hcell
      by_cases hjn : j < n
      · go_wp2_with fail
        go_ret
        exact ⟨_, rfl, HRr.out.mono hz, below_then HB.out hz HB1.out⟩
      · go_wp2_with fail
        go_ret
        exact ⟨_, rfl, HRr.out.mono hz, below_then HB.out hz HB1.out⟩
    · by_cases hjn : j < n
      · obtain ⟨s, hs⟩ : ∃ s, L[j]? = some s := ⟨_, List.getElem?_eq_getElem (by rw [HNL.out]; exact hjn)⟩
        obtain ⟨g, rfl, _, hgl, t0, t1, t2, _⟩ := hcell j s hs
        have s0 := (HB1.out.cell (p := ⟨g, j * 3, none⟩) hgl).trans t0
        have s1 := (HB1.out.cell (p := ⟨g, j * 3 + 1, none⟩) hgl).trans t1
        have s2 := (HB1.out.cell (p := ⟨g, j * 3 + 2, none⟩) hgl).trans t2
        have HE := Lib.hid (wthn_take lo hi hlh L j s hs)
        have q3 : (0 : Int) ≤ (j : Int) := by omega
        have q4 : (j : Int) < (n : Int) := by omega
        clear hcell hs t0 t1 t2
        by_cases h1 : s.hi < lo
        · have HM := Lib.hid (show meets lo hi s = false by unfold meets; simp; omega)
          have HBW := Lib.hid ((Below.refl wr.heap.size wr).alloc (Nat.le_refl _) (.cells #[.int .u64 s.lo, .int .u64 s.hi, .int .i64 s.v] 66))
          have HRW := Lib.hid (HRr.out.below HBW.out)
          have HBB := Lib.hid (below_then HB1.out HB1.out.size HBW.out)
          go_wp2_with fail
          go_roundw
          case rel => exact ⟨j + 1, by omega, by go_num, by rw [HE.out, HM.out, if_neg (by decide), List.append_nil]; exact HRW.out, HBB.out⟩
          case measure => simp [intOf]; omega
        · by_cases h2 : s.lo ≤ hi
          · have HM := Lib.hid (show meets lo hi s = true by unfold meets; simp; omega)
            by_cases h3 : s.lo < lo
            · by_cases h4 : hi < s.hi
              · have HE2 := Lib.hid (show clip lo hi s = ⟨lo, hi, s.v⟩ by unfold clip; rw [if_pos h3, if_pos h4])
                have HBW := Lib.hid ((Below.refl wr.heap.size wr).alloc (Nat.le_refl _) (.cells #[.int .u64 lo, .int .u64 hi, .int .i64 s.v] 66))
                have HRW := Lib.hid (HRr.out.below HBW.out)
                have HBB := Lib.hid (below_then HB1.out HB1.out.size HBW.out)
                go_wp2_with (at_builtin; (refine app_ref w1.heap.size rfl (.tmp 50) (.tmp 52) rfl _ (wthn lo hi (L.take j)) ⟨lo, hi, s.v⟩ rfl rfl (by simp) HRW.out hlen HBB.out (by have := HB1.out.size; simp; omega) ?_); intro v' w' hR' hB' hz')
                go_roundw
                case rel => exact ⟨j + 1, by omega, by go_num, by rw [HE.out, HM.out, if_pos rfl, HE2.out]; exact hR', hB'⟩
                case measure => simp [intOf]; omega
              · have HE2 := Lib.hid (show clip lo hi s = ⟨lo, s.hi, s.v⟩ by unfold clip; rw [if_pos h3, if_neg h4])
                have HBW := Lib.hid ((Below.refl wr.heap.size wr).alloc (Nat.le_refl _) (.cells #[.int .u64 lo, .int .u64 s.hi, .int .i64 s.v] 66))
                have HRW := Lib.hid (HRr.out.below HBW.out)
                have HBB := Lib.hid (below_then HB1.out HB1.out.size HBW.out)
                go_wp2_with (at_builtin; (refine app_ref w1.heap.size rfl (.tmp 50) (.tmp 52) rfl _ (wthn lo hi (L.take j)) ⟨lo, s.hi, s.v⟩ rfl rfl (by simp) HRW.out hlen HBB.out (by have := HB1.out.size; simp; omega) ?_); intro v' w' hR' hB' hz')
                go_roundw
                case rel => exact ⟨j + 1, by omega, by go_num, by rw [HE.out, HM.out, if_pos rfl, HE2.out]; exact hR', hB'⟩
                case measure => simp [intOf]; omega
            · by_cases h4 : hi < s.hi
              · have HE2 := Lib.hid (show clip lo hi s = ⟨s.lo, hi, s.v⟩ by unfold clip; rw [if_neg h3, if_pos h4])
                have HBW := Lib.hid ((Below.refl wr.heap.size wr).alloc (Nat.le_refl _) (.cells #[.int .u64 s.lo, .int .u64 hi, .int .i64 s.v] 66))
                have HRW := Lib.hid (HRr.out.below HBW.out)
                have HBB := Lib.hid (below_then HB1.out HB1.out.size HBW.out)
                go_wp2_with (at_builtin; (refine app_ref w1.heap.size rfl (.tmp 50) (.tmp 52) rfl _ (wthn lo hi (L.take j)) ⟨s.lo, hi, s.v⟩ rfl rfl (by simp) HRW.out hlen HBB.out (by have := HB1.out.size; simp; omega) ?_); intro v' w' hR' hB' hz')
                go_roundw
                case rel => exact ⟨j + 1, by omega, by go_num, by rw [HE.out, HM.out, if_pos rfl, HE2.out]; exact hR', hB'⟩
                case measure => simp [intOf]; omega
              · have HE2 := Lib.hid (show clip lo hi s = ⟨s.lo, s.hi, s.v⟩ by unfold clip; rw [if_neg h3, if_neg h4])
                have HBW := Lib.hid ((Below.refl wr.heap.size wr).alloc (Nat.le_refl _) (.cells #[.int .u64 s.lo, .int .u64 s.hi, .int .i64 s.v] 66))
                have HRW := Lib.hid (HRr.out.below HBW.out)
                have HBB := Lib.hid (below_then HB1.out HB1.out.size HBW.out)
                go_wp2_with (at_builtin; (refine app_ref w1.heap.size rfl (.tmp 50) (.tmp 52) rfl _ (wthn lo hi (L.take j)) ⟨s.lo, s.hi, s.v⟩ rfl rfl (by simp) HRW.out hlen HBB.out (by have := HB1.out.size; simp; omega) ?_); intro v' w' hR' hB' hz')
                go_roundw
                case rel => exact ⟨j + 1, by omega, by go_num, by rw [HE.out, HM.out, if_pos rfl, HE2.out]; exact hR', hB'⟩
                case measure => simp [intOf]; omega
          · have HM := Lib.hid (show meets lo hi s = false by unfold meets; simp; omega)
            have HBW := Lib.hid ((Below.refl wr.heap.size wr).alloc (Nat.le_refl _) (.cells #[.int .u64 s.lo, .int .u64 s.hi, .int .i64 s.v] 66))
            have HRW := Lib.hid (HRr.out.below HBW.out)
            have HBB := Lib.hid (below_then HB1.out HB1.out.size HBW.out)
            go_wp2_with fail
            go_roundw
            case rel => exact ⟨j + 1, by omega, by go_num, by rw [HE.out, HM.out, if_neg (by decide), List.append_nil]; exact HRW.out, HBB.out⟩
            case measure => simp [intOf]; omega
      · obtain rfl : j = n := by omega
        have e : L.take j = L := List.take_of_length_le (by rw [HNL.out]; omega)
        rw [e] at HRr
        clear hcell
        go_wp2_with fail
        go_ret
        exact ⟨_, rfl, HRr.out.mono hz, below_then HB.out hz HB1.out⟩

end Go.Proofs.Ythkolpjbkbcmbaa
