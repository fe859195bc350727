/- The walk of join over spans of ints. -/
import Derived.Test.YthkolpjbkbcmbaaBase
set_option linter.unusedVariables false
set_option linter.unusedSimpArgs false
namespace Go.Proofs.Ythkolpjbkbcmbaa
open Go.RowKit

/-- A row that was handed in is handed back as l, in its own block or in a new one. -/
def Made (w : World) (base : Nat) (v : Value) (l : List S) (e : Ending) (w' : World) : Prop :=
  ∃ v', e = .returned v' ∧ RowAt w' base v' l ∧ w.grownBy w' v.ownBlock ∧ (v'.ownBlock = v.ownBlock ∨ ∃ b, v'.ownBlock = some b ∧ w.heap.size ≤ b)

theorem made_of {w W w' : World} {base : Nat} {v v' : Value} {l : List S} (hg0 : w.grownBy W v.ownBlock) (h1 : RowAt w' base v' l) (h2 : W.grownBy w' v.ownBlock) (h3 : v'.ownBlock = v.ownBlock ∨ ∃ b, v'.ownBlock = some b ∧ W.heap.size ≤ b) :
    Made w base v l (.returned v') w' :=
  ⟨v', rfl, h1, hg0.trans h2, h3.imp id fun ⟨b, hb, hs⟩ => ⟨b, hb, Nat.le_trans hg0.size hs⟩⟩

set_option maxHeartbeats 400000 in
theorem join_0 (w : World) (base c : Nat) (A : Option Addr) (slo shi sv : Int) (hrow : RowAt w base (.slice A 0 c) []) (hbase : base ≤ w.heap.size) :
    Calls Try.prog 69 #[.slice A 0 c, .agg #[.int .u64 slo, .int .u64 shi, .int .i64 sv]] w (Made w base (.slice A 0 c) [⟨slo, shi, sv⟩]) := by
  have hg : decide ((0 : Int) < 0) = false := by simp
  go_enter Try.func69, Try.ntmps69
  go_wp2
  go_quiet (fail)
  have HO := hrow.alloc (.cells #[.int .u64 slo, .int .u64 shi, .int .i64 sv] 34)
  go_wp2_with (at_builtin; (refine app_span_d base rfl _ _ rfl (.slice A 0 c) [] ⟨slo, shi, sv⟩ rfl rfl (by simp) HO (by simp) (by simp; omega) ?_); intro v' w' hR hG hat)
  go_ret
  exact made_of (World.grownBy_alloc w _ _) hR hG hat

set_option maxHeartbeats 1000000 in
theorem join_a (w : World) (base m c g : Nat) (l : List S) (slo shi sv thi tv : Int) (hrow : RowAt w base (.slice (some ⟨g, 0, none⟩) (m + 1) c) l) (hl : l.length ≤ 2000000000) (hm : m ≤ 2000000000) (hmc : m + 1 ≤ c) (hbase : base ≤ w.heap.size) (hgl : g < w.heap.size)
    (h1 : w.cell? ⟨g, m * 3 + 1, none⟩ = some (.int .u64 thi)) (h2 : w.cell? ⟨g, m * 3 + 2, none⟩ = some (.int .i64 tv))
    (hlt : thi < slo) (ht0 : 0 ≤ thi) (ht : slo ≤ 18446744073709551615)
    (hne : (¬ thi + 1 = slo) ∨ (thi + 1 = slo ∧ (tv == sv) = false)) :
    Calls Try.prog 69 #[.slice (some ⟨g, 0, none⟩) (m + 1) c, .agg #[.int .u64 slo, .int .u64 shi, .int .i64 sv]] w (Made w base (.slice (some ⟨g, 0, none⟩) (m + 1) c) (l ++ [⟨slo, shi, sv⟩])) := by
  have hg : (0 : Int) < (m : Int) + 1 := by omega
  have q0 : (0 : Int) ≤ (m : Int) + 1 - 1 := by omega
  have q1 : (m : Int) + 1 - 1 < (m : Int) + 1 := by omega
  have HROW := Lib.hid hrow
  clear hrow
  rcases hne with hne | ⟨he, hne⟩
  · have hg2 : ((thi + 1 : Int) == slo) = false := by simpa using hne
    go_enter Try.func69, Try.ntmps69
    go_wp2
    go_quiet (fail)
    have HO := HROW.out.alloc (.cells #[.int .u64 slo, .int .u64 shi, .int .i64 sv] 34)
    go_wp2_with (at_builtin; (refine app_span_d base rfl _ _ rfl (.slice (some ⟨g, 0, none⟩) (m + 1) c) l ⟨slo, shi, sv⟩ rfl rfl (by simp) HO hl (by simp; omega) ?_); intro v' w' hR hG hat)
    go_ret
    exact made_of (World.grownBy_alloc w _ _) hR hG hat
  · have hg2 : ((thi + 1 : Int) == slo) = true := by simpa using he
    go_enter Try.func69, Try.ntmps69
    go_wp2
    go_quiet (fail)
    have HO := HROW.out.alloc (.cells #[.int .u64 slo, .int .u64 shi, .int .i64 sv] 34)
    go_wp2_with (at_builtin; (refine app_span_d base rfl _ _ rfl (.slice (some ⟨g, 0, none⟩) (m + 1) c) l ⟨slo, shi, sv⟩ rfl rfl (by simp) HO hl (by simp; omega) ?_); intro v' w' hR hG hat)
    go_ret
    exact made_of (World.grownBy_alloc w _ _) hR hG hat

set_option maxHeartbeats 1000000 in
theorem join_c (w : World) (base m c g : Nat) (l : List S) (slo shi sv thi tv : Int) (hrow : RowAt w base (.slice (some ⟨g, 0, none⟩) (m + 1) c) l) (hm : m ≤ 2000000000) (hmc : m + 1 ≤ c) (hgl : g < w.heap.size)
    (h1 : w.cell? ⟨g, m * 3 + 1, none⟩ = some (.int .u64 thi)) (h2 : w.cell? ⟨g, m * 3 + 2, none⟩ = some (.int .i64 tv)) (hf : w.frozen? ⟨g, m * 3 + 1, none⟩ = false)
    (hlt : thi < slo) (ht0 : 0 ≤ thi) (ht : slo ≤ 18446744073709551615) (he : ((thi + 1 : Int) == slo) = true) (hv : (tv == sv) = true) :
    Calls Try.prog 69 #[.slice (some ⟨g, 0, none⟩) (m + 1) c, .agg #[.int .u64 slo, .int .u64 shi, .int .i64 sv]] w fun e w' =>
      e = .returned (.slice (some ⟨g, 0, none⟩) (m + 1) c) ∧ ∃ nq, w' = ((w.alloc (.cells #[.int .u64 slo, .int .u64 shi, .int .i64 sv] 34)).drewN nq).setCell ⟨g, m * 3 + 1, none⟩ (.int .u64 shi) := by
  have hg : (0 : Int) < (m : Int) + 1 := by omega
  have q0 : (0 : Int) ≤ (m : Int) + 1 - 1 := by omega
  have q1 : (m : Int) + 1 - 1 < (m : Int) + 1 := by omega
  clear hrow
  go_enter Try.func69, Try.ntmps69
  go_wp2
  go_quiet (fail)
  go_wp2
  go_ret
  exact ⟨rfl, _, rfl⟩

theorem flat_set_last (l : List S) (t : S) (h : Int) : (flat (l ++ [t])).set (l.length * 3 + 1) (.int .u64 h) = flat (l ++ [⟨t.lo, h, t.v⟩]) := by
  rw [flat_append, flat_append, ← flat_length, List.set_append_right _ _ (by omega)]
  have e : (flat l).length + 1 - (flat l).length = 1 := by omega
  rw [e]
  rfl

theorem join_calls (w : World) (base : Nat) (v : Value) (l : List S) (s : S) (hrow : RowAt w base v l) (hl : l.length ≤ 2000000000) (hbase : base ≤ w.heap.size)
    (hlast : ∀ t ∈ l, 0 ≤ t.hi ∧ t.hi < s.lo) (ht : s.lo ≤ M.top) :
    Calls Try.prog 69 #[v, .agg #[.int .u64 s.lo, .int .u64 s.hi, .int .i64 s.v]] w (Made w base v (M.join l s)) := by
  obtain ⟨A, c, rfl, hlc, hc, hread⟩ := hrow.read
  obtain ⟨slo, shi, sv⟩ := s
  rcases M.snoc_cases l with rfl | ⟨m, t, rfl⟩
  · exact join_0 w base c A slo shi sv hrow hbase
  · have hlen : (m ++ [t]).length = m.length + 1 := by simp
    obtain ⟨g, rfl, hbg, hgl, h0, h1, h2, hf⟩ := hread m.length t (by simp)
    obtain ⟨ha, hb⟩ := hlast t (by simp)
    rw [M.join_snoc]
    have ht' : slo ≤ 18446744073709551615 := ht
    by_cases hj : t.hi + 1 = slo ∧ t.v = sv
    · rw [if_pos hj]
      obtain ⟨he, hv⟩ := hj
      rw [hlen] at hrow hl hlc ⊢
      refine (join_c w base m.length c g (m ++ [t]) slo shi sv t.hi t.v hrow (by omega) hlc hgl h1 h2 hf hb ha ht' (by simpa using he) (by simpa using hv)).mono ?_
      rintro e w' ⟨rfl, nq, rfl⟩
      have hown : World.ownsRow ((w.alloc (.cells #[.int .u64 slo, .int .u64 shi, .int .i64 sv] 34)).drewN nq) base 34 3 (.slice (some ⟨g, 0, none⟩) (m.length + 1) c) (m.length + 1) (flat (m ++ [t])) := by
        have := (hrow.alloc (.cells #[.int .u64 slo, .int .u64 shi, .int .i64 sv] 34)).drewN nq
        unfold RowAt at this
        rwa [hlen] at this
      have hs := hown.stored (m.length * 3 + 1) (.int .u64 shi)
      refine ⟨_, rfl, ?_, ?_, .inl rfl⟩
      · have := hs.1
        rw [flat_set_last] at this
        unfold RowAt
        simpa using this
      · exact (World.grownBy_alloc w _ _).trans (grown_of_drewN hs.2)
    · rw [if_neg hj]
      rw [hlen] at hrow hlc ⊢
      refine join_a w base m.length c g (m ++ [t]) slo shi sv t.hi t.v hrow hl (by omega) hlc hbase hgl h1 h2 hb ha ht' ?_
      by_cases he : t.hi + 1 = slo
      · refine .inr ⟨he, ?_⟩
        have : ¬ t.v = sv := fun hv => hj ⟨he, hv⟩
        simpa using this
      · exact .inl he

end Go.Proofs.Ythkolpjbkbcmbaa
