/- The walks of New, Set and Clear over maps of ints. -/
import Derived.Test.YthkolpjbkbcmbaaLay
set_option linter.unusedVariables false
set_option linter.unusedSimpArgs false
namespace Go.Proofs.Ythkolpjbkbcmbaa
open Go.RowKit

/-- What Set (some) and Clear (none) tell, and what stands behind them. -/
def eno (lo hi : Int) : Int := if hi < lo then 20 else 0
def put (L : List S) (lo hi : Int) (o : Option Int) : List S := if hi < lo then L else M.lay L lo hi (M.laid lo hi o)

theorem MapAt.lower {w : World} {base p : Nat} {L : List S} (h : MapAt w base p L) : MapAt w 0 p L := by
  obtain ⟨A, c, hp, h1, h2⟩ := h
  exact ⟨A, c, hp, h1, h2.imp id fun ⟨g, cap, cur, e1, _, e3⟩ => ⟨g, cap, cur, e1, Nat.zero_le _, e3⟩⟩

theorem new_calls (w : World) : Calls Try.prog 33 #[] w fun e w' => e = .returned (.pointer (some ⟨w.heap.size, 0, none⟩)) ∧ MapAt w' 0 w.heap.size [] ∧ Below w.heap.size w w' := by
  go_enter Try.func33, Try.ntmps33
  go_wp2
  go_ret
  refine ⟨rfl, ⟨none, 0, ?_, World.ownsRow_nil _ _ _ _⟩, (Below.refl _ _).alloc (Nat.le_refl _) _⟩
  exact heap_alloc_new w _

set_option maxHeartbeats 400000 in
theorem set_bad (w : World) (p : Nat) (lo hi v : Int) (h : hi < lo) : Calls Try.prog 34 #[.pointer (some ⟨p, 0, none⟩), .int .u64 lo, .int .u64 hi, .int .i64 v] w fun e w' => e = .returned (.int .i64 20) ∧ w = w' := by
  go_enter Try.func34, Try.ntmps34
  go_wp2_with fail
  go_ret
  exact ⟨rfl, rfl⟩

set_option maxHeartbeats 400000 in
theorem set_ok (w : World) (base p : Nat) (L : List S) (lo hi v : Int) (hM : MapAt w base p L) (hn : L.length ≤ 500000000) (hW : M.WF L) (h0 : 0 ≤ lo) (hlh : lo ≤ hi) (ht : hi ≤ M.top) :
    Calls Try.prog 34 #[.pointer (some ⟨p, 0, none⟩), .int .u64 lo, .int .u64 hi, .int .i64 v] w fun e w' => e = .returned (.int .i64 0) ∧ MapAt w' 0 p (M.lay L lo hi [⟨lo, hi, v⟩]) ∧ w.grownBy w' (some p) := by
  have hsl : RowAt (w.alloc (.cells #[.int .u64 lo, .int .u64 hi, .int .i64 v] 34)) 0 (.slice (some ⟨w.heap.size, 0, none⟩) 1 1) [⟨lo, hi, v⟩] :=
    World.ownsRow_lit (size := 3) w #[.int .u64 lo, .int .u64 hi, .int .i64 v] 1 (Nat.zero_le _) (by unfold maxLen; omega) rfl
  have hc := lay_calls (w.alloc (.cells #[.int .u64 lo, .int .u64 hi, .int .i64 v] 34)) base p L lo hi _ 0 [⟨lo, hi, v⟩] (hM.alloc _) hn hW h0 hlh ht hsl (by simp)
    ⟨fun s hs => by obtain rfl : s = ⟨lo, hi, v⟩ := by simpa using hs
                    exact ⟨h0, hlh, ht⟩, by simp⟩ (fun s hs => by obtain rfl : s = ⟨lo, hi, v⟩ := by simpa using hs
                                                                  exact ⟨rfl, rfl⟩)
  have HC := Lib.hid hc
  clear hc hsl hM hW ht
  go_enter Try.func34, Try.ntmps34
  go_wp2_with fail
  refine HC.out.mono ?_
  rintro e w' ⟨rfl, h1, h2⟩
  clear HC
  go_wp2_with fail
  go_ret
  exact ⟨rfl, h1, grown_alloc h2⟩

set_option maxHeartbeats 400000 in
theorem clear_bad (w : World) (p : Nat) (lo hi : Int) (h : hi < lo) : Calls Try.prog 35 #[.pointer (some ⟨p, 0, none⟩), .int .u64 lo, .int .u64 hi] w fun e w' => e = .returned (.int .i64 20) ∧ w = w' := by
  go_enter Try.func35, Try.ntmps35
  go_wp2_with fail
  go_ret
  exact ⟨rfl, rfl⟩

set_option maxHeartbeats 400000 in
theorem clear_ok (w : World) (base p : Nat) (L : List S) (lo hi : Int) (hM : MapAt w base p L) (hn : L.length ≤ 500000000) (hW : M.WF L) (h0 : 0 ≤ lo) (hlh : lo ≤ hi) (ht : hi ≤ M.top) :
    Calls Try.prog 35 #[.pointer (some ⟨p, 0, none⟩), .int .u64 lo, .int .u64 hi] w fun e w' => e = .returned (.int .i64 0) ∧ MapAt w' 0 p (M.lay L lo hi []) ∧ w.grownBy w' (some p) := by
  have hc := lay_calls w base p L lo hi (.slice none 0 0) 0 [] hM hn hW h0 hlh ht (RowAt.nil _ _) (by simp) M.WF.nil (by simp)
  have HC := Lib.hid hc
  clear hc hM hW ht
  go_enter Try.func35, Try.ntmps35
  go_wp2_with fail
  refine HC.out.mono ?_
  rintro e w' ⟨rfl, h1, h2⟩
  clear HC
  go_wp2_with fail
  go_ret
  exact ⟨rfl, h1, h2⟩

theorem set_calls (w : World) (p : Nat) (L : List S) (lo hi v : Int) (hM : MapAt w 0 p L) (hn : L.length ≤ 500000000) (hW : M.WF L) (h0 : 0 ≤ lo) (ht : hi ≤ M.top) :
    Calls Try.prog 34 #[.pointer (some ⟨p, 0, none⟩), .int .u64 lo, .int .u64 hi, .int .i64 v] w fun e w' => e = .returned (.int .i64 (eno lo hi)) ∧ MapAt w' 0 p (put L lo hi (some v)) ∧ w.grownBy w' (some p) := by
  unfold eno put
  by_cases h : hi < lo
  · rw [if_pos h, if_pos h]
    refine (set_bad w p lo hi v h).mono ?_
    rintro e w' ⟨rfl, rfl⟩
    exact ⟨rfl, hM, World.grownBy.refl _ _⟩
  · rw [if_neg h, if_neg h]
    exact set_ok w 0 p L lo hi v hM hn hW h0 (by omega) ht

theorem clear_calls (w : World) (p : Nat) (L : List S) (lo hi : Int) (hM : MapAt w 0 p L) (hn : L.length ≤ 500000000) (hW : M.WF L) (h0 : 0 ≤ lo) (ht : hi ≤ M.top) :
    Calls Try.prog 35 #[.pointer (some ⟨p, 0, none⟩), .int .u64 lo, .int .u64 hi] w fun e w' => e = .returned (.int .i64 (eno lo hi)) ∧ MapAt w' 0 p (put L lo hi none) ∧ w.grownBy w' (some p) := by
  unfold eno put
  by_cases h : hi < lo
  · rw [if_pos h, if_pos h]
    refine (clear_bad w p lo hi h).mono ?_
    rintro e w' ⟨rfl, rfl⟩
    exact ⟨rfl, hM, World.grownBy.refl _ _⟩
  · rw [if_neg h, if_neg h]
    exact clear_ok w 0 p L lo hi hM hn hW h0 (by omega) ht

theorem put_wf {L : List S} {lo hi : Int} (o : Option Int) (hW : M.WF L) (h0 : 0 ≤ lo) (ht : hi ≤ M.top) : M.WF (put L lo hi o) := by
  unfold put
  by_cases h : hi < lo
  · rw [if_pos h]; exact hW
  · rw [if_neg h]; exact (M.lay_spec o hW h0 (by omega) ht).1
theorem put_length {L : List S} {lo hi : Int} (o : Option Int) (hW : M.WF L) (h0 : 0 ≤ lo) (ht : hi ≤ M.top) : (put L lo hi o).length ≤ L.length + 2 := by
  unfold put
  by_cases h : hi < lo
  · rw [if_pos h]; omega
  · rw [if_neg h]; exact (M.lay_spec o hW h0 (by omega) ht).2.2
theorem put_has {L : List S} {lo hi : Int} (o : Option Int) (hW : M.WF L) (h0 : 0 ≤ lo) (ht : hi ≤ M.top) (k v : Int) : M.Has (put L lo hi o) k v ↔ if lo ≤ k ∧ k ≤ hi then o = some v else M.Has L k v := by
  unfold put
  by_cases h : hi < lo
  · rw [if_pos h, if_neg (by omega)]
  · rw [if_neg h]; exact (M.lay_spec o hW h0 (by omega) ht).2.1 k v

end Go.Proofs.Ythkolpjbkbcmbaa
