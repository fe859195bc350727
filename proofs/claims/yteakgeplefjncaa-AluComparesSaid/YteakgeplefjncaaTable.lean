/- The table of operations, each a closure over a closed function. Printed by mktable.py. -/
import Derived.Test.YteakgeplefjncaaSum
import Derived.Deep.RegionHeld3
import Derived.Laws.EntriesVeiled
import Derived.Deep.CutBlock
import Derived.Deep.CutRange
set_option linter.unusedVariables false
set_option linter.unusedSimpArgs false
namespace Go.Proofs.Yteakgeplefjncaa
open Go.RowKit

theorem makeFunc_run (fn : Fn) (first cap : Array Value) (w : World) : (Instr.makeFunc fn first cap).run Try.prog w = .ok (.func fn first cap) w := rfl
theorem logical_calls (w : World) (k : Nat) : Calls Try.prog 53 #[.func (.func k) #[] #[]] w fun e w' => e = .returned (.func (.func 68) #[] #[.pointer (some ⟨w.heap.size, 0, none⟩)]) ∧ w' = w.alloc (.cells #[.func (.func k) #[] #[]] 78) := by
  have hmf := makeFunc_run
  go_enter Try.func53, Try.ntmps53
  go_wp2_with fail
  go_ret
  exact ⟨rfl, rfl⟩
theorem summed_calls (w : World) (k : Nat) : Calls Try.prog 56 #[.func (.func k) #[] #[]] w fun e w' => e = .returned (.func (.func 69) #[] #[.pointer (some ⟨w.heap.size, 0, none⟩)]) ∧ w' = w.alloc (.cells #[.func (.func k) #[] #[]] 80) := by
  have hmf := makeFunc_run
  go_enter Try.func56, Try.ntmps56
  go_wp2_with fail
  go_ret
  exact ⟨rfl, rfl⟩

/-- The table's value, its closures' variables laid from b on. -/
noncomputable def tableV (b : Nat) : Value := .agg #[.nilFunc, .func (.func 68) #[] #[.pointer (some ⟨b + 1, 0, none⟩)], .func (.func 68) #[] #[.pointer (some ⟨b + 2, 0, none⟩)], .func (.func 69) #[] #[.pointer (some ⟨b + 3, 0, none⟩)], .func (.func 69) #[] #[.pointer (some ⟨b + 5, 0, none⟩)], .func (.func 69) #[] #[.pointer (some ⟨b + 4, 0, none⟩)], .func (.func 69) #[] #[.pointer (some ⟨b + 6, 0, none⟩)], .func (.func 69) #[] #[.pointer (some ⟨b + 7, 0, none⟩)], .func (.func 69) #[] #[.pointer (some ⟨b + 8, 0, none⟩)], .func (.func 68) #[] #[.pointer (some ⟨b + 1, 0, none⟩)], .func (.func 68) #[] #[.pointer (some ⟨b + 2, 0, none⟩)], .func (.func 69) #[] #[.pointer (some ⟨b + 3, 0, none⟩)], .func (.func 69) #[] #[.pointer (some ⟨b + 4, 0, none⟩)], .func (.func 68) #[] #[.pointer (some ⟨b + 9, 0, none⟩)], .func (.func 68) #[] #[.pointer (some ⟨b + 10, 0, none⟩)], .func (.func 68) #[] #[.pointer (some ⟨b + 11, 0, none⟩)], .func (.func 68) #[] #[.pointer (some ⟨b + 12, 0, none⟩)]]
/-- The world behind the table's making. -/
noncomputable def tableW (w : World) : World := ((((((((((((w.alloc (.cells #[.nilFunc, .func (.func 68) #[] #[.pointer (some ⟨w.heap.size + 1, 0, none⟩)], .func (.func 68) #[] #[.pointer (some ⟨w.heap.size + 2, 0, none⟩)], .func (.func 69) #[] #[.pointer (some ⟨w.heap.size + 3, 0, none⟩)], .func (.func 69) #[] #[.pointer (some ⟨w.heap.size + 5, 0, none⟩)], .func (.func 69) #[] #[.pointer (some ⟨w.heap.size + 4, 0, none⟩)], .func (.func 69) #[] #[.pointer (some ⟨w.heap.size + 6, 0, none⟩)], .func (.func 69) #[] #[.pointer (some ⟨w.heap.size + 7, 0, none⟩)], .func (.func 69) #[] #[.pointer (some ⟨w.heap.size + 8, 0, none⟩)], .func (.func 68) #[] #[.pointer (some ⟨w.heap.size + 1, 0, none⟩)], .func (.func 68) #[] #[.pointer (some ⟨w.heap.size + 2, 0, none⟩)], .func (.func 69) #[] #[.pointer (some ⟨w.heap.size + 3, 0, none⟩)], .func (.func 69) #[] #[.pointer (some ⟨w.heap.size + 4, 0, none⟩)], .func (.func 68) #[] #[.pointer (some ⟨w.heap.size + 9, 0, none⟩)], .func (.func 68) #[] #[.pointer (some ⟨w.heap.size + 10, 0, none⟩)], .func (.func 68) #[] #[.pointer (some ⟨w.heap.size + 11, 0, none⟩)], .func (.func 68) #[] #[.pointer (some ⟨w.heap.size + 12, 0, none⟩)]] 68)).alloc (.cells #[.func (.func 54) #[] #[]] 78)).alloc (.cells #[.func (.func 55) #[] #[]] 78)).alloc (.cells #[.func (.func 57) #[] #[]] 80)).alloc (.cells #[.func (.func 58) #[] #[]] 80)).alloc (.cells #[.func (.func 59) #[] #[]] 80)).alloc (.cells #[.func (.func 60) #[] #[]] 80)).alloc (.cells #[.func (.func 61) #[] #[]] 80)).alloc (.cells #[.func (.func 62) #[] #[]] 80)).alloc (.cells #[.func (.func 63) #[] #[]] 78)).alloc (.cells #[.func (.func 64) #[] #[]] 78)).alloc (.cells #[.func (.func 65) #[] #[]] 78)).alloc (.cells #[.func (.func 66) #[] #[]] 78)

set_option maxRecDepth 100000 in
set_option maxHeartbeats 4000000 in
theorem operations_calls (w : World) : Calls Try.prog 48 #[] w fun e w' => e = .returned (tableV w.heap.size) ∧ w' = tableW w := by
  have hmf := makeFunc_run
  go_enter Try.func48, Try.ntmps48
  go_wp2_with fail
  refine (logical_calls _ _).mono ?_
  rintro e w1 ⟨rfl, rfl⟩
  go_wp2_with fail
  refine (logical_calls _ _).mono ?_
  rintro e w2 ⟨rfl, rfl⟩
  go_wp2_with fail
  refine (summed_calls _ _).mono ?_
  rintro e w3 ⟨rfl, rfl⟩
  go_wp2_with fail
  refine (summed_calls _ _).mono ?_
  rintro e w4 ⟨rfl, rfl⟩
  go_wp2_with fail
  refine (summed_calls _ _).mono ?_
  rintro e w5 ⟨rfl, rfl⟩
  go_wp2_with fail
  refine (summed_calls _ _).mono ?_
  rintro e w6 ⟨rfl, rfl⟩
  go_wp2_with fail
  refine (summed_calls _ _).mono ?_
  rintro e w7 ⟨rfl, rfl⟩
  go_wp2_with fail
  refine (summed_calls _ _).mono ?_
  rintro e w8 ⟨rfl, rfl⟩
  go_wp2_with fail
  refine (logical_calls _ _).mono ?_
  rintro e w9 ⟨rfl, rfl⟩
  go_wp2_with fail
  refine (logical_calls _ _).mono ?_
  rintro e w10 ⟨rfl, rfl⟩
  go_wp2_with fail
  refine (logical_calls _ _).mono ?_
  rintro e w11 ⟨rfl, rfl⟩
  go_wp2_with fail
  refine (logical_calls _ _).mono ?_
  rintro e w12 ⟨rfl, rfl⟩
  go_wp2_with fail
  exact bodyPost_ret (v := tableV w.heap.size) (by simp [results, Try.results48, go_sem, tableV]) rfl ⟨rfl, rfl⟩
end Go.Proofs.Yteakgeplefjncaa
