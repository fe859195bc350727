/- The walk of AluDoes; of the reference's Do. Printed by mkdoes.py. -/
import Derived.Test.YteakgeplefjncaaSums
import Derived.BigRegion
set_option linter.unusedVariables false
set_option linter.unusedSimpArgs false
namespace Go.Proofs.Yteakgeplefjncaa
open Go.RowKit

theorem below_unalloc' {B : Nat} {v w3 : World} {o : Obj} (h : Below B (v.alloc o) w3) : Below B (v.alloc o) w3 := h
set_option maxRecDepth 100000 in
set_option maxHeartbeats 2000000 in
theorem ref_logic_calls (w : World) (op a b : Int) :
    Calls Try.prog 49 #[.int .i64 op, u a, u b] w fun e w' => e = .returned (.tuple #[u (if isLogic op then logic op a b else 0), .bool (isLogic op)]) ∧ w' = w := by
  have hs := unsig
  rcases (show op = 1 ∨ op = 9 ∨ op = 2 ∨ op = 10 ∨ op = 13 ∨ op = 14 ∨ op = 15 ∨ op = 16 ∨ (¬ op = 1 ∧ ¬ op = 9 ∧ ¬ op = 2 ∧ ¬ op = 10 ∧ ¬ op = 13 ∧ ¬ op = 14 ∧ ¬ op = 15 ∧ ¬ op = 16) by omega) with rfl | rfl | rfl | rfl | rfl | rfl | rfl | rfl | ⟨n1, n2, n3, n4, n5, n6, n7, n8⟩
  · go_enter Try.func49, Try.ntmps49
    go_wp2_with fail
    exact bodyPost_ret (v := .tuple #[u (bits .and .u32 a b), .bool true]) (by simp [results, Try.results49, go_sem, NOT]) rfl ⟨rfl, rfl⟩
  · go_enter Try.func49, Try.ntmps49
    go_wp2_with fail
    exact bodyPost_ret (v := .tuple #[u (bits .and .u32 a b), .bool true]) (by simp [results, Try.results49, go_sem, NOT]) rfl ⟨rfl, rfl⟩
  · go_enter Try.func49, Try.ntmps49
    go_wp2_with fail
    exact bodyPost_ret (v := .tuple #[u (bits .xor .u32 a b), .bool true]) (by simp [results, Try.results49, go_sem, NOT]) rfl ⟨rfl, rfl⟩
  · go_enter Try.func49, Try.ntmps49
    go_wp2_with fail
    exact bodyPost_ret (v := .tuple #[u (bits .xor .u32 a b), .bool true]) (by simp [results, Try.results49, go_sem, NOT]) rfl ⟨rfl, rfl⟩
  · go_enter Try.func49, Try.ntmps49
    go_wp2_with fail
    exact bodyPost_ret (v := .tuple #[u (bits .or .u32 a b), .bool true]) (by simp [results, Try.results49, go_sem, NOT]) rfl ⟨rfl, rfl⟩
  · go_enter Try.func49, Try.ntmps49
    go_wp2_with fail
    exact bodyPost_ret (v := .tuple #[u (b), .bool true]) (by simp [results, Try.results49, go_sem, NOT]) rfl ⟨rfl, rfl⟩
  · go_enter Try.func49, Try.ntmps49
    go_wp2_with fail
    exact bodyPost_ret (v := .tuple #[u (bits .andNot .u32 a b), .bool true]) (by simp [results, Try.results49, go_sem, NOT]) rfl ⟨rfl, rfl⟩
  · go_enter Try.func49, Try.ntmps49
    go_wp2_with fail
    exact bodyPost_ret (v := .tuple #[u (NOT b), .bool true]) (by simp [results, Try.results49, go_sem, NOT]) rfl ⟨rfl, rfl⟩
  · have hl : Hid (isLogic op = false) := Lib.hid (by simp [isLogic, n1, n2, n3, n4, n5, n6, n7, n8])
    simp only [hl.out, Bool.false_eq_true, if_false]
    go_enter Try.func49, Try.ntmps49
    go_wp2_with fail
    exact bodyPost_ret (v := .tuple #[u 0, .bool false]) (by simp [results, Try.results49, go_sem]) rfl ⟨rfl, rfl⟩

set_option maxRecDepth 100000 in
set_option maxHeartbeats 2000000 in
theorem ref_do_logic (w : World) (op a b : Int) (s : Bool) (f : F) (h : 1 ≤ op ∧ op ≤ 16) (hl : isLogic op = true) (hr : W32 (logic op a b)) :
    Calls Try.prog 27 #[.int .i64 op, u a, u b, .bool s, f.val] w fun e w' => e = .returned (.tuple #[u (logic op a b), .bool (writes op), (marks (logic op a b) s f.v).val]) ∧ Below w.heap.size w w' := by
  have HG := fun w => ref_logic_calls w op a b
  simp only [hl, if_true] at HG
  have HG := fun w => Lib.hid (HG w)
  obtain ⟨n, z, c, v⟩ := f
  obtain ⟨o1, o2⟩ := h
  have o3 : ¬ op < 1 := by omega
  have o4 : ¬ 16 < op := by omega
  generalize logic op a b = r at *
  have hm : Hid (marks r s v = ⟨decide (2147483648 ≤ r), r == 0, s, v⟩) := Lib.hid rfl
  simp only [F.val]
  rw [hm.out]
  clear hl hr
  rcases (show op < 9 ∨ (¬ op < 9 ∧ 12 < op) ∨ (¬ op < 9 ∧ ¬ 12 < op) by omega) with k | ⟨k, k'⟩ | ⟨k, k'⟩
  · have HW : Hid (writes op = true) := Lib.hid (by simp [writes, k])
    go_enter Try.func27, Try.ntmps27
    go_wp2_with fail
    refine (HG _).out.mono ?_
    rintro e w1 ⟨rfl, rfl⟩
    go_wp2_with fail
    go_region
    go_wp2_with fail
    exact bodyPost_ret (v := .tuple #[u r, .bool true, .agg #[.bool (decide (2147483648 ≤ r)), .bool (r == 0), .bool s, .bool v]]) (by simp [results, Try.results27, go_sem]) rfl ⟨by rw [HW.out], (((Below.refl _ _).alloc (Nat.le_refl _) _).alloc (by simp) _).drew⟩
  · have HW : Hid (writes op = true) := Lib.hid (by simp [writes, k'])
    go_enter Try.func27, Try.ntmps27
    go_wp2_with fail
    refine (HG _).out.mono ?_
    rintro e w1 ⟨rfl, rfl⟩
    go_wp2_with fail
    go_region
    go_wp2_with fail
    exact bodyPost_ret (v := .tuple #[u r, .bool true, .agg #[.bool (decide (2147483648 ≤ r)), .bool (r == 0), .bool s, .bool v]]) (by simp [results, Try.results27, go_sem]) rfl ⟨by rw [HW.out], (((Below.refl _ _).alloc (Nat.le_refl _) _).alloc (by simp) _).drew⟩
  · have HW : Hid (writes op = false) := Lib.hid (by simp [writes, k, k'])
    go_enter Try.func27, Try.ntmps27
    go_wp2_with fail
    refine (HG _).out.mono ?_
    rintro e w1 ⟨rfl, rfl⟩
    go_wp2_with fail
    go_region
    go_wp2_with fail
    exact bodyPost_ret (v := .tuple #[u r, .bool false, .agg #[.bool (decide (2147483648 ≤ r)), .bool (r == 0), .bool s, .bool v]]) (by simp [results, Try.results27, go_sem]) rfl ⟨by rw [HW.out], (((Below.refl _ _).alloc (Nat.le_refl _) _).alloc (by simp) _).drew⟩

theorem ref_do_out (w : World) (op a b : Int) (s : Bool) (f : F) (h : op < 1 ∨ 16 < op) :
    Calls Try.prog 27 #[.int .i64 op, u a, u b, .bool s, f.val] w fun e w' => e = .returned (.tuple #[u 0, .bool false, f.val]) ∧ Below w.heap.size w w' := by
  obtain ⟨fn, fz, fc, fv⟩ := f
  simp only [F.val]
  rcases h with h | h
  · go_enter Try.func27, Try.ntmps27
    go_wp2_with fail
    go_region
    go_wp2_with fail
    exact bodyPost_ret (v := .tuple #[u 0, .bool false, .agg #[.bool fn, .bool fz, .bool fc, .bool fv]]) (by simp [results, Try.results27, go_sem]) rfl ⟨rfl, (((Below.refl _ _).alloc (Nat.le_refl _) _).alloc (by simp) _).drew⟩
  · have h1 : ¬ op < 1 := by omega
    go_enter Try.func27, Try.ntmps27
    go_wp2_with fail
    go_region
    go_wp2_with fail
    exact bodyPost_ret (v := .tuple #[u 0, .bool false, .agg #[.bool fn, .bool fz, .bool fc, .bool fv]]) (by simp [results, Try.results27, go_sem]) rfl ⟨rfl, (((Below.refl _ _).alloc (Nat.le_refl _) _).alloc (by simp) _).drew⟩


set_option maxRecDepth 100000 in
set_option maxHeartbeats 2000000 in
theorem ref_do_3 (w : World) (a b : Int) (s : Bool) (f : F) (ha : W32 a) (hb : W32 b) :
    Calls Try.prog 27 #[.int .i64 3, u a, u b, .bool s, f.val] w fun e w' => e = .returned (.tuple #[u (sum a (NOT b) true).1, .bool (writes 3), (sum a (NOT b) true).2.val]) ∧ Below w.heap.size w w' := by
  have hs := unsig
  have HW : Hid (writes 3 = true) := Lib.hid rfl
  have HG := fun w => ref_logic_calls w 3 a b
  simp only [show isLogic 3 = false from rfl, Bool.false_eq_true, if_false] at HG
  have HG := fun w => Lib.hid (HG w)
  obtain ⟨n, z, cc, v⟩ := f
  have HM := fun w => Lib.hid (ref_sum_calls w a (NOT b) true ha (not_word b))
  generalize sum a (NOT b) true = m at *
  obtain ⟨r, ⟨mn, mz, mc, mv⟩⟩ := m
  (try unfold NOT at HM)
  simp only [F.val] at HM ⊢
  clear ha hb
  go_enter Try.func27, Try.ntmps27
  go_wp2_with fail
  refine (HG _).out.mono ?_
  rintro e w1 ⟨rfl, rfl⟩
  go_wp2_with fail
  refine (HM _).out.mono ?_
  rintro e w2 ⟨rfl, hb⟩
  have z2 : w2.heap[w.heap.size + 1]? = some (.cells #[.bool false, .bool false, .bool false, .bool false] 25 (0, 0)) :=
    (hb.block _ (by rw [alloc_size, alloc_size, alloc_size]; omega)).trans (by rw [Below.heap_alloc _ _ _ (by rw [alloc_size, alloc_size]; omega)]; exact new_at _ _ _ (by rw [alloc_size]))
  have y0 := cell_of_row w2 _ 0 _ _ _ z2
  have y1 := cell_of_row w2 _ 1 _ _ _ z2
  have y2 := cell_of_row w2 _ 2 _ _ _ z2
  have y3 := cell_of_row w2 _ 3 _ _ _ z2
  have y4 : ∀ i, w2.frozen? ⟨w.heap.size + 1, i, none⟩ = false := fun i => by simp [World.frozen?, z2]
  simp only [List.getElem?_toArray, List.getElem?_cons_zero, List.getElem?_cons_succ] at y0 y1 y2 y3
  clear z2
  obtain ⟨hz, hcc, hf⟩ := newbox hb
  have d0 : w2.cell? ⟨w.heap.size + 1 + 1, 0, none⟩ = some (.bool n) := by have := hcc 0 (.bool n) rfl; simpa using this
  have d1 : w2.cell? ⟨w.heap.size + 1 + 1, 1, none⟩ = some (.bool z) := by have := hcc 1 (.bool z) rfl; simpa using this
  have d2 : w2.cell? ⟨w.heap.size + 1 + 1, 2, none⟩ = some (.bool cc) := by have := hcc 2 (.bool cc) rfl; simpa using this
  have d3 : w2.cell? ⟨w.heap.size + 1 + 1, 3, none⟩ = some (.bool v) := by have := hcc 3 (.bool v) rfl; simpa using this
  have d4 : ∀ i, w2.frozen? ⟨w.heap.size + 1 + 1, i, none⟩ = false := fun i => by have := hf i; simpa using this
  have HB := Lib.hid (below_then ((((Below.refl _ w).alloc (Nat.le_refl _) _).alloc (by simp) _).alloc (by simp <;> omega) _) (by simp <;> omega) hb)
  clear hb hcc hf hz
  go_wp2_with fail
  go_region
  go_wp2_with fail
  exact bodyPost_ret (v := .tuple #[u r, .bool true, .agg #[.bool mn, .bool mz, .bool mc, .bool mv]]) (by simp [results, Try.results27, go_sem, y0, y1, y2, y3, d0, d1, d2, d3]) rfl ⟨by rw [HW.out], (below_set (below_set HB.out (by omega) _ _ _ _) (by omega) _ _ _ _).drew⟩


set_option maxRecDepth 100000 in
set_option maxHeartbeats 2000000 in
theorem ref_do_11 (w : World) (a b : Int) (s : Bool) (f : F) (ha : W32 a) (hb : W32 b) :
    Calls Try.prog 27 #[.int .i64 11, u a, u b, .bool s, f.val] w fun e w' => e = .returned (.tuple #[u (sum a (NOT b) true).1, .bool (writes 11), (sum a (NOT b) true).2.val]) ∧ Below w.heap.size w w' := by
  have hs := unsig
  have HW : Hid (writes 11 = false) := Lib.hid rfl
  have HG := fun w => ref_logic_calls w 11 a b
  simp only [show isLogic 11 = false from rfl, Bool.false_eq_true, if_false] at HG
  have HG := fun w => Lib.hid (HG w)
  obtain ⟨n, z, cc, v⟩ := f
  have HM := fun w => Lib.hid (ref_sum_calls w a (NOT b) true ha (not_word b))
  generalize sum a (NOT b) true = m at *
  obtain ⟨r, ⟨mn, mz, mc, mv⟩⟩ := m
  (try unfold NOT at HM)
  simp only [F.val] at HM ⊢
  clear ha hb
  go_enter Try.func27, Try.ntmps27
  go_wp2_with fail
  refine (HG _).out.mono ?_
  rintro e w1 ⟨rfl, rfl⟩
  go_wp2_with fail
  refine (HM _).out.mono ?_
  rintro e w2 ⟨rfl, hb⟩
  have z2 : w2.heap[w.heap.size + 1]? = some (.cells #[.bool false, .bool false, .bool false, .bool false] 25 (0, 0)) :=
    (hb.block _ (by rw [alloc_size, alloc_size, alloc_size]; omega)).trans (by rw [Below.heap_alloc _ _ _ (by rw [alloc_size, alloc_size]; omega)]; exact new_at _ _ _ (by rw [alloc_size]))
  have y0 := cell_of_row w2 _ 0 _ _ _ z2
  have y1 := cell_of_row w2 _ 1 _ _ _ z2
  have y2 := cell_of_row w2 _ 2 _ _ _ z2
  have y3 := cell_of_row w2 _ 3 _ _ _ z2
  have y4 : ∀ i, w2.frozen? ⟨w.heap.size + 1, i, none⟩ = false := fun i => by simp [World.frozen?, z2]
  simp only [List.getElem?_toArray, List.getElem?_cons_zero, List.getElem?_cons_succ] at y0 y1 y2 y3
  clear z2
  obtain ⟨hz, hcc, hf⟩ := newbox hb
  have d0 : w2.cell? ⟨w.heap.size + 1 + 1, 0, none⟩ = some (.bool n) := by have := hcc 0 (.bool n) rfl; simpa using this
  have d1 : w2.cell? ⟨w.heap.size + 1 + 1, 1, none⟩ = some (.bool z) := by have := hcc 1 (.bool z) rfl; simpa using this
  have d2 : w2.cell? ⟨w.heap.size + 1 + 1, 2, none⟩ = some (.bool cc) := by have := hcc 2 (.bool cc) rfl; simpa using this
  have d3 : w2.cell? ⟨w.heap.size + 1 + 1, 3, none⟩ = some (.bool v) := by have := hcc 3 (.bool v) rfl; simpa using this
  have d4 : ∀ i, w2.frozen? ⟨w.heap.size + 1 + 1, i, none⟩ = false := fun i => by have := hf i; simpa using this
  have HB := Lib.hid (below_then ((((Below.refl _ w).alloc (Nat.le_refl _) _).alloc (by simp) _).alloc (by simp <;> omega) _) (by simp <;> omega) hb)
  clear hb hcc hf hz
  go_wp2_with fail
  go_region
  go_wp2_with fail
  exact bodyPost_ret (v := .tuple #[u r, .bool false, .agg #[.bool mn, .bool mz, .bool mc, .bool mv]]) (by simp [results, Try.results27, go_sem, y0, y1, y2, y3, d0, d1, d2, d3]) rfl ⟨by rw [HW.out], (below_set (below_set HB.out (by omega) _ _ _ _) (by omega) _ _ _ _).drew⟩


set_option maxRecDepth 100000 in
set_option maxHeartbeats 2000000 in
theorem ref_do_4 (w : World) (a b : Int) (s : Bool) (f : F) (ha : W32 a) (hb : W32 b) :
    Calls Try.prog 27 #[.int .i64 4, u a, u b, .bool s, f.val] w fun e w' => e = .returned (.tuple #[u (sum (NOT a) b true).1, .bool (writes 4), (sum (NOT a) b true).2.val]) ∧ Below w.heap.size w w' := by
  have hs := unsig
  have HW : Hid (writes 4 = true) := Lib.hid rfl
  have HG := fun w => ref_logic_calls w 4 a b
  simp only [show isLogic 4 = false from rfl, Bool.false_eq_true, if_false] at HG
  have HG := fun w => Lib.hid (HG w)
  obtain ⟨n, z, cc, v⟩ := f
  have HM := fun w => Lib.hid (ref_sum_calls w (NOT a) b true (not_word a) hb)
  generalize sum (NOT a) b true = m at *
  obtain ⟨r, ⟨mn, mz, mc, mv⟩⟩ := m
  (try unfold NOT at HM)
  simp only [F.val] at HM ⊢
  clear ha hb
  go_enter Try.func27, Try.ntmps27
  go_wp2_with fail
  refine (HG _).out.mono ?_
  rintro e w1 ⟨rfl, rfl⟩
  go_wp2_with fail
  refine (HM _).out.mono ?_
  rintro e w2 ⟨rfl, hb⟩
  have z2 : w2.heap[w.heap.size + 1]? = some (.cells #[.bool false, .bool false, .bool false, .bool false] 25 (0, 0)) :=
    (hb.block _ (by rw [alloc_size, alloc_size, alloc_size]; omega)).trans (by rw [Below.heap_alloc _ _ _ (by rw [alloc_size, alloc_size]; omega)]; exact new_at _ _ _ (by rw [alloc_size]))
  have y0 := cell_of_row w2 _ 0 _ _ _ z2
  have y1 := cell_of_row w2 _ 1 _ _ _ z2
  have y2 := cell_of_row w2 _ 2 _ _ _ z2
  have y3 := cell_of_row w2 _ 3 _ _ _ z2
  have y4 : ∀ i, w2.frozen? ⟨w.heap.size + 1, i, none⟩ = false := fun i => by simp [World.frozen?, z2]
  simp only [List.getElem?_toArray, List.getElem?_cons_zero, List.getElem?_cons_succ] at y0 y1 y2 y3
  clear z2
  obtain ⟨hz, hcc, hf⟩ := newbox hb
  have d0 : w2.cell? ⟨w.heap.size + 1 + 1, 0, none⟩ = some (.bool n) := by have := hcc 0 (.bool n) rfl; simpa using this
  have d1 : w2.cell? ⟨w.heap.size + 1 + 1, 1, none⟩ = some (.bool z) := by have := hcc 1 (.bool z) rfl; simpa using this
  have d2 : w2.cell? ⟨w.heap.size + 1 + 1, 2, none⟩ = some (.bool cc) := by have := hcc 2 (.bool cc) rfl; simpa using this
  have d3 : w2.cell? ⟨w.heap.size + 1 + 1, 3, none⟩ = some (.bool v) := by have := hcc 3 (.bool v) rfl; simpa using this
  have d4 : ∀ i, w2.frozen? ⟨w.heap.size + 1 + 1, i, none⟩ = false := fun i => by have := hf i; simpa using this
  have HB := Lib.hid (below_then ((((Below.refl _ w).alloc (Nat.le_refl _) _).alloc (by simp) _).alloc (by simp <;> omega) _) (by simp <;> omega) hb)
  clear hb hcc hf hz
  go_wp2_with fail
  go_region
  go_wp2_with fail
  exact bodyPost_ret (v := .tuple #[u r, .bool true, .agg #[.bool mn, .bool mz, .bool mc, .bool mv]]) (by simp [results, Try.results27, go_sem, y0, y1, y2, y3, d0, d1, d2, d3]) rfl ⟨by rw [HW.out], (below_set (below_set HB.out (by omega) _ _ _ _) (by omega) _ _ _ _).drew⟩


set_option maxRecDepth 100000 in
set_option maxHeartbeats 2000000 in
theorem ref_do_5 (w : World) (a b : Int) (s : Bool) (f : F) (ha : W32 a) (hb : W32 b) :
    Calls Try.prog 27 #[.int .i64 5, u a, u b, .bool s, f.val] w fun e w' => e = .returned (.tuple #[u (sum a b false).1, .bool (writes 5), (sum a b false).2.val]) ∧ Below w.heap.size w w' := by
  have hs := unsig
  have HW : Hid (writes 5 = true) := Lib.hid rfl
  have HG := fun w => ref_logic_calls w 5 a b
  simp only [show isLogic 5 = false from rfl, Bool.false_eq_true, if_false] at HG
  have HG := fun w => Lib.hid (HG w)
  obtain ⟨n, z, cc, v⟩ := f
  have HM := fun w => Lib.hid (ref_sum_calls w a b false ha hb)
  generalize sum a b false = m at *
  obtain ⟨r, ⟨mn, mz, mc, mv⟩⟩ := m
  (try unfold NOT at HM)
  simp only [F.val] at HM ⊢
  clear ha hb
  go_enter Try.func27, Try.ntmps27
  go_wp2_with fail
  refine (HG _).out.mono ?_
  rintro e w1 ⟨rfl, rfl⟩
  go_wp2_with fail
  refine (HM _).out.mono ?_
  rintro e w2 ⟨rfl, hb⟩
  have z2 : w2.heap[w.heap.size + 1]? = some (.cells #[.bool false, .bool false, .bool false, .bool false] 25 (0, 0)) :=
    (hb.block _ (by rw [alloc_size, alloc_size, alloc_size]; omega)).trans (by rw [Below.heap_alloc _ _ _ (by rw [alloc_size, alloc_size]; omega)]; exact new_at _ _ _ (by rw [alloc_size]))
  have y0 := cell_of_row w2 _ 0 _ _ _ z2
  have y1 := cell_of_row w2 _ 1 _ _ _ z2
  have y2 := cell_of_row w2 _ 2 _ _ _ z2
  have y3 := cell_of_row w2 _ 3 _ _ _ z2
  have y4 : ∀ i, w2.frozen? ⟨w.heap.size + 1, i, none⟩ = false := fun i => by simp [World.frozen?, z2]
  simp only [List.getElem?_toArray, List.getElem?_cons_zero, List.getElem?_cons_succ] at y0 y1 y2 y3
  clear z2
  obtain ⟨hz, hcc, hf⟩ := newbox hb
  have d0 : w2.cell? ⟨w.heap.size + 1 + 1, 0, none⟩ = some (.bool n) := by have := hcc 0 (.bool n) rfl; simpa using this
  have d1 : w2.cell? ⟨w.heap.size + 1 + 1, 1, none⟩ = some (.bool z) := by have := hcc 1 (.bool z) rfl; simpa using this
  have d2 : w2.cell? ⟨w.heap.size + 1 + 1, 2, none⟩ = some (.bool cc) := by have := hcc 2 (.bool cc) rfl; simpa using this
  have d3 : w2.cell? ⟨w.heap.size + 1 + 1, 3, none⟩ = some (.bool v) := by have := hcc 3 (.bool v) rfl; simpa using this
  have d4 : ∀ i, w2.frozen? ⟨w.heap.size + 1 + 1, i, none⟩ = false := fun i => by have := hf i; simpa using this
  have HB := Lib.hid (below_then ((((Below.refl _ w).alloc (Nat.le_refl _) _).alloc (by simp) _).alloc (by simp <;> omega) _) (by simp <;> omega) hb)
  clear hb hcc hf hz
  go_wp2_with fail
  go_region
  go_wp2_with fail
  exact bodyPost_ret (v := .tuple #[u r, .bool true, .agg #[.bool mn, .bool mz, .bool mc, .bool mv]]) (by simp [results, Try.results27, go_sem, y0, y1, y2, y3, d0, d1, d2, d3]) rfl ⟨by rw [HW.out], (below_set (below_set HB.out (by omega) _ _ _ _) (by omega) _ _ _ _).drew⟩


set_option maxRecDepth 100000 in
set_option maxHeartbeats 2000000 in
theorem ref_do_12 (w : World) (a b : Int) (s : Bool) (f : F) (ha : W32 a) (hb : W32 b) :
    Calls Try.prog 27 #[.int .i64 12, u a, u b, .bool s, f.val] w fun e w' => e = .returned (.tuple #[u (sum a b false).1, .bool (writes 12), (sum a b false).2.val]) ∧ Below w.heap.size w w' := by
  have hs := unsig
  have HW : Hid (writes 12 = false) := Lib.hid rfl
  have HG := fun w => ref_logic_calls w 12 a b
  simp only [show isLogic 12 = false from rfl, Bool.false_eq_true, if_false] at HG
  have HG := fun w => Lib.hid (HG w)
  obtain ⟨n, z, cc, v⟩ := f
  have HM := fun w => Lib.hid (ref_sum_calls w a b false ha hb)
  generalize sum a b false = m at *
  obtain ⟨r, ⟨mn, mz, mc, mv⟩⟩ := m
  (try unfold NOT at HM)
  simp only [F.val] at HM ⊢
  clear ha hb
  go_enter Try.func27, Try.ntmps27
  go_wp2_with fail
  refine (HG _).out.mono ?_
  rintro e w1 ⟨rfl, rfl⟩
  go_wp2_with fail
  refine (HM _).out.mono ?_
  rintro e w2 ⟨rfl, hb⟩
  have z2 : w2.heap[w.heap.size + 1]? = some (.cells #[.bool false, .bool false, .bool false, .bool false] 25 (0, 0)) :=
    (hb.block _ (by rw [alloc_size, alloc_size, alloc_size]; omega)).trans (by rw [Below.heap_alloc _ _ _ (by rw [alloc_size, alloc_size]; omega)]; exact new_at _ _ _ (by rw [alloc_size]))
  have y0 := cell_of_row w2 _ 0 _ _ _ z2
  have y1 := cell_of_row w2 _ 1 _ _ _ z2
  have y2 := cell_of_row w2 _ 2 _ _ _ z2
  have y3 := cell_of_row w2 _ 3 _ _ _ z2
  have y4 : ∀ i, w2.frozen? ⟨w.heap.size + 1, i, none⟩ = false := fun i => by simp [World.frozen?, z2]
  simp only [List.getElem?_toArray, List.getElem?_cons_zero, List.getElem?_cons_succ] at y0 y1 y2 y3
  clear z2
  obtain ⟨hz, hcc, hf⟩ := newbox hb
  have d0 : w2.cell? ⟨w.heap.size + 1 + 1, 0, none⟩ = some (.bool n) := by have := hcc 0 (.bool n) rfl; simpa using this
  have d1 : w2.cell? ⟨w.heap.size + 1 + 1, 1, none⟩ = some (.bool z) := by have := hcc 1 (.bool z) rfl; simpa using this
  have d2 : w2.cell? ⟨w.heap.size + 1 + 1, 2, none⟩ = some (.bool cc) := by have := hcc 2 (.bool cc) rfl; simpa using this
  have d3 : w2.cell? ⟨w.heap.size + 1 + 1, 3, none⟩ = some (.bool v) := by have := hcc 3 (.bool v) rfl; simpa using this
  have d4 : ∀ i, w2.frozen? ⟨w.heap.size + 1 + 1, i, none⟩ = false := fun i => by have := hf i; simpa using this
  have HB := Lib.hid (below_then ((((Below.refl _ w).alloc (Nat.le_refl _) _).alloc (by simp) _).alloc (by simp <;> omega) _) (by simp <;> omega) hb)
  clear hb hcc hf hz
  go_wp2_with fail
  go_region
  go_wp2_with fail
  exact bodyPost_ret (v := .tuple #[u r, .bool false, .agg #[.bool mn, .bool mz, .bool mc, .bool mv]]) (by simp [results, Try.results27, go_sem, y0, y1, y2, y3, d0, d1, d2, d3]) rfl ⟨by rw [HW.out], (below_set (below_set HB.out (by omega) _ _ _ _) (by omega) _ _ _ _).drew⟩


set_option maxRecDepth 100000 in
set_option maxHeartbeats 2000000 in
theorem ref_do_6 (w : World) (a b : Int) (s : Bool) (f : F) (ha : W32 a) (hb : W32 b) :
    Calls Try.prog 27 #[.int .i64 6, u a, u b, .bool s, f.val] w fun e w' => e = .returned (.tuple #[u (sum a b f.c).1, .bool (writes 6), (sum a b f.c).2.val]) ∧ Below w.heap.size w w' := by
  have hs := unsig
  have HW : Hid (writes 6 = true) := Lib.hid rfl
  have HG := fun w => ref_logic_calls w 6 a b
  simp only [show isLogic 6 = false from rfl, Bool.false_eq_true, if_false] at HG
  have HG := fun w => Lib.hid (HG w)
  obtain ⟨n, z, cc, v⟩ := f
  have HM := fun w => Lib.hid (ref_sum_calls w a b cc ha hb)
  generalize sum a b cc = m at *
  obtain ⟨r, ⟨mn, mz, mc, mv⟩⟩ := m
  (try unfold NOT at HM)
  simp only [F.val] at HM ⊢
  clear ha hb
  go_enter Try.func27, Try.ntmps27
  go_wp2_with fail
  refine (HG _).out.mono ?_
  rintro e w1 ⟨rfl, rfl⟩
  go_wp2_with fail
  refine (HM _).out.mono ?_
  rintro e w2 ⟨rfl, hb⟩
  have z2 : w2.heap[w.heap.size + 1]? = some (.cells #[.bool false, .bool false, .bool false, .bool false] 25 (0, 0)) :=
    (hb.block _ (by rw [alloc_size, alloc_size, alloc_size]; omega)).trans (by rw [Below.heap_alloc _ _ _ (by rw [alloc_size, alloc_size]; omega)]; exact new_at _ _ _ (by rw [alloc_size]))
  have y0 := cell_of_row w2 _ 0 _ _ _ z2
  have y1 := cell_of_row w2 _ 1 _ _ _ z2
  have y2 := cell_of_row w2 _ 2 _ _ _ z2
  have y3 := cell_of_row w2 _ 3 _ _ _ z2
  have y4 : ∀ i, w2.frozen? ⟨w.heap.size + 1, i, none⟩ = false := fun i => by simp [World.frozen?, z2]
  simp only [List.getElem?_toArray, List.getElem?_cons_zero, List.getElem?_cons_succ] at y0 y1 y2 y3
  clear z2
  obtain ⟨hz, hcc, hf⟩ := newbox hb
  have d0 : w2.cell? ⟨w.heap.size + 1 + 1, 0, none⟩ = some (.bool n) := by have := hcc 0 (.bool n) rfl; simpa using this
  have d1 : w2.cell? ⟨w.heap.size + 1 + 1, 1, none⟩ = some (.bool z) := by have := hcc 1 (.bool z) rfl; simpa using this
  have d2 : w2.cell? ⟨w.heap.size + 1 + 1, 2, none⟩ = some (.bool cc) := by have := hcc 2 (.bool cc) rfl; simpa using this
  have d3 : w2.cell? ⟨w.heap.size + 1 + 1, 3, none⟩ = some (.bool v) := by have := hcc 3 (.bool v) rfl; simpa using this
  have d4 : ∀ i, w2.frozen? ⟨w.heap.size + 1 + 1, i, none⟩ = false := fun i => by have := hf i; simpa using this
  have HB := Lib.hid (below_then ((((Below.refl _ w).alloc (Nat.le_refl _) _).alloc (by simp) _).alloc (by simp <;> omega) _) (by simp <;> omega) hb)
  clear hb hcc hf hz
  go_wp2_with fail
  go_region
  go_wp2_with fail
  exact bodyPost_ret (v := .tuple #[u r, .bool true, .agg #[.bool mn, .bool mz, .bool mc, .bool mv]]) (by simp [results, Try.results27, go_sem, y0, y1, y2, y3, d0, d1, d2, d3]) rfl ⟨by rw [HW.out], (below_set (below_set HB.out (by omega) _ _ _ _) (by omega) _ _ _ _).drew⟩


set_option maxRecDepth 100000 in
set_option maxHeartbeats 2000000 in
theorem ref_do_7 (w : World) (a b : Int) (s : Bool) (f : F) (ha : W32 a) (hb : W32 b) :
    Calls Try.prog 27 #[.int .i64 7, u a, u b, .bool s, f.val] w fun e w' => e = .returned (.tuple #[u (sum a (NOT b) f.c).1, .bool (writes 7), (sum a (NOT b) f.c).2.val]) ∧ Below w.heap.size w w' := by
  have hs := unsig
  have HW : Hid (writes 7 = true) := Lib.hid rfl
  have HG := fun w => ref_logic_calls w 7 a b
  simp only [show isLogic 7 = false from rfl, Bool.false_eq_true, if_false] at HG
  have HG := fun w => Lib.hid (HG w)
  obtain ⟨n, z, cc, v⟩ := f
  have HM := fun w => Lib.hid (ref_sum_calls w a (NOT b) cc ha (not_word b))
  generalize sum a (NOT b) cc = m at *
  obtain ⟨r, ⟨mn, mz, mc, mv⟩⟩ := m
  (try unfold NOT at HM)
  simp only [F.val] at HM ⊢
  clear ha hb
  go_enter Try.func27, Try.ntmps27
  go_wp2_with fail
  refine (HG _).out.mono ?_
  rintro e w1 ⟨rfl, rfl⟩
  go_wp2_with fail
  refine (HM _).out.mono ?_
  rintro e w2 ⟨rfl, hb⟩
  have z2 : w2.heap[w.heap.size + 1]? = some (.cells #[.bool false, .bool false, .bool false, .bool false] 25 (0, 0)) :=
    (hb.block _ (by rw [alloc_size, alloc_size, alloc_size]; omega)).trans (by rw [Below.heap_alloc _ _ _ (by rw [alloc_size, alloc_size]; omega)]; exact new_at _ _ _ (by rw [alloc_size]))
  have y0 := cell_of_row w2 _ 0 _ _ _ z2
  have y1 := cell_of_row w2 _ 1 _ _ _ z2
  have y2 := cell_of_row w2 _ 2 _ _ _ z2
  have y3 := cell_of_row w2 _ 3 _ _ _ z2
  have y4 : ∀ i, w2.frozen? ⟨w.heap.size + 1, i, none⟩ = false := fun i => by simp [World.frozen?, z2]
  simp only [List.getElem?_toArray, List.getElem?_cons_zero, List.getElem?_cons_succ] at y0 y1 y2 y3
  clear z2
  obtain ⟨hz, hcc, hf⟩ := newbox hb
  have d0 : w2.cell? ⟨w.heap.size + 1 + 1, 0, none⟩ = some (.bool n) := by have := hcc 0 (.bool n) rfl; simpa using this
  have d1 : w2.cell? ⟨w.heap.size + 1 + 1, 1, none⟩ = some (.bool z) := by have := hcc 1 (.bool z) rfl; simpa using this
  have d2 : w2.cell? ⟨w.heap.size + 1 + 1, 2, none⟩ = some (.bool cc) := by have := hcc 2 (.bool cc) rfl; simpa using this
  have d3 : w2.cell? ⟨w.heap.size + 1 + 1, 3, none⟩ = some (.bool v) := by have := hcc 3 (.bool v) rfl; simpa using this
  have d4 : ∀ i, w2.frozen? ⟨w.heap.size + 1 + 1, i, none⟩ = false := fun i => by have := hf i; simpa using this
  have HB := Lib.hid (below_then ((((Below.refl _ w).alloc (Nat.le_refl _) _).alloc (by simp) _).alloc (by simp <;> omega) _) (by simp <;> omega) hb)
  clear hb hcc hf hz
  go_wp2_with fail
  go_region
  go_wp2_with fail
  exact bodyPost_ret (v := .tuple #[u r, .bool true, .agg #[.bool mn, .bool mz, .bool mc, .bool mv]]) (by simp [results, Try.results27, go_sem, y0, y1, y2, y3, d0, d1, d2, d3]) rfl ⟨by rw [HW.out], (below_set (below_set HB.out (by omega) _ _ _ _) (by omega) _ _ _ _).drew⟩


set_option maxRecDepth 100000 in
set_option maxHeartbeats 2000000 in
theorem ref_do_8 (w : World) (a b : Int) (s : Bool) (f : F) (ha : W32 a) (hb : W32 b) :
    Calls Try.prog 27 #[.int .i64 8, u a, u b, .bool s, f.val] w fun e w' => e = .returned (.tuple #[u (sum (NOT a) b f.c).1, .bool (writes 8), (sum (NOT a) b f.c).2.val]) ∧ Below w.heap.size w w' := by
  have hs := unsig
  have HW : Hid (writes 8 = true) := Lib.hid rfl
  have HG := fun w => ref_logic_calls w 8 a b
  simp only [show isLogic 8 = false from rfl, Bool.false_eq_true, if_false] at HG
  have HG := fun w => Lib.hid (HG w)
  obtain ⟨n, z, cc, v⟩ := f
  have HM := fun w => Lib.hid (ref_sum_calls w (NOT a) b cc (not_word a) hb)
  generalize sum (NOT a) b cc = m at *
  obtain ⟨r, ⟨mn, mz, mc, mv⟩⟩ := m
  (try unfold NOT at HM)
  simp only [F.val] at HM ⊢
  clear ha hb
  go_enter Try.func27, Try.ntmps27
  go_wp2_with fail
  refine (HG _).out.mono ?_
  rintro e w1 ⟨rfl, rfl⟩
  go_wp2_with fail
  refine (HM _).out.mono ?_
  rintro e w2 ⟨rfl, hb⟩
  have z2 : w2.heap[w.heap.size + 1]? = some (.cells #[.bool false, .bool false, .bool false, .bool false] 25 (0, 0)) :=
    (hb.block _ (by rw [alloc_size, alloc_size, alloc_size]; omega)).trans (by rw [Below.heap_alloc _ _ _ (by rw [alloc_size, alloc_size]; omega)]; exact new_at _ _ _ (by rw [alloc_size]))
  have y0 := cell_of_row w2 _ 0 _ _ _ z2
  have y1 := cell_of_row w2 _ 1 _ _ _ z2
  have y2 := cell_of_row w2 _ 2 _ _ _ z2
  have y3 := cell_of_row w2 _ 3 _ _ _ z2
  have y4 : ∀ i, w2.frozen? ⟨w.heap.size + 1, i, none⟩ = false := fun i => by simp [World.frozen?, z2]
  simp only [List.getElem?_toArray, List.getElem?_cons_zero, List.getElem?_cons_succ] at y0 y1 y2 y3
  clear z2
  obtain ⟨hz, hcc, hf⟩ := newbox hb
  have d0 : w2.cell? ⟨w.heap.size + 1 + 1, 0, none⟩ = some (.bool n) := by have := hcc 0 (.bool n) rfl; simpa using this
  have d1 : w2.cell? ⟨w.heap.size + 1 + 1, 1, none⟩ = some (.bool z) := by have := hcc 1 (.bool z) rfl; simpa using this
  have d2 : w2.cell? ⟨w.heap.size + 1 + 1, 2, none⟩ = some (.bool cc) := by have := hcc 2 (.bool cc) rfl; simpa using this
  have d3 : w2.cell? ⟨w.heap.size + 1 + 1, 3, none⟩ = some (.bool v) := by have := hcc 3 (.bool v) rfl; simpa using this
  have d4 : ∀ i, w2.frozen? ⟨w.heap.size + 1 + 1, i, none⟩ = false := fun i => by have := hf i; simpa using this
  have HB := Lib.hid (below_then ((((Below.refl _ w).alloc (Nat.le_refl _) _).alloc (by simp) _).alloc (by simp <;> omega) _) (by simp <;> omega) hb)
  clear hb hcc hf hz
  go_wp2_with fail
  go_region
  go_wp2_with fail
  exact bodyPost_ret (v := .tuple #[u r, .bool true, .agg #[.bool mn, .bool mz, .bool mc, .bool mv]]) (by simp [results, Try.results27, go_sem, y0, y1, y2, y3, d0, d1, d2, d3]) rfl ⟨by rw [HW.out], (below_set (below_set HB.out (by omega) _ _ _ _) (by omega) _ _ _ _).drew⟩


theorem ref_do_calls (w : World) (op a b : Int) (s : Bool) (f : F) (ha : W32 a) (hb : W32 b) :
    Calls Try.prog 27 #[.int .i64 op, u a, u b, .bool s, f.val] w fun e w' => e = .returned (D3 (doM op a b s f)) ∧ Below w.heap.size w w' := by
  by_cases h : op < 1 ∨ 16 < op
  · have e : doM op a b s f = (0, false, f) := if_pos h
    rw [e]
    exact ref_do_out w op a b s f h
  rcases (show op = 1 ∨ op = 2 ∨ op = 3 ∨ op = 4 ∨ op = 5 ∨ op = 6 ∨ op = 7 ∨ op = 8 ∨ op = 9 ∨ op = 10 ∨ op = 11 ∨ op = 12 ∨ op = 13 ∨ op = 14 ∨ op = 15 ∨ op = 16 by omega) with rfl | rfl | rfl | rfl | rfl | rfl | rfl | rfl | rfl | rfl | rfl | rfl | rfl | rfl | rfl | rfl
  · exact ref_do_logic w 1 a b s f (by omega) rfl (and_word a b)
  · exact ref_do_logic w 2 a b s f (by omega) rfl (xor_word a b)
  · exact ref_do_3 w a b s f ha hb
  · exact ref_do_4 w a b s f ha hb
  · exact ref_do_5 w a b s f ha hb
  · exact ref_do_6 w a b s f ha hb
  · exact ref_do_7 w a b s f ha hb
  · exact ref_do_8 w a b s f ha hb
  · exact ref_do_logic w 9 a b s f (by omega) rfl (and_word a b)
  · exact ref_do_logic w 10 a b s f (by omega) rfl (xor_word a b)
  · exact ref_do_11 w a b s f ha hb
  · exact ref_do_12 w a b s f ha hb
  · exact ref_do_logic w 13 a b s f (by omega) rfl (or_word a b)
  · exact ref_do_logic w 14 a b s f (by omega) rfl hb
  · exact ref_do_logic w 15 a b s f (by omega) rfl (bic_word a b)
  · exact ref_do_logic w 16 a b s f (by omega) rfl (not_word b)

set_option maxRecDepth 100000 in
set_option maxHeartbeats 4000000 in
theorem does_core (w : World) (op a b : Int) (s : Bool) (f : F) (ha : W32 a) (hb : W32 b) :
    Calls Try.prog 6 #[.int .i64 op, u a, u b, .bool s, f.val] w fun e w' => e = .returned (.bool true) ∧ Below w.heap.size w w' := by
  have HL := fun w => Lib.hid (live_calls w)
  have HA := fun w o => do_calls w o a b s f ha hb
  have HR := fun w o => ref_do_calls w o a b s f ha hb
  obtain ⟨g, hg⟩ : ∃ g : Int → Int × Bool × F, ∀ o, doM o a b s f = g o := ⟨_, fun _ => rfl⟩
  simp only [hg, D3, F.val] at HA HR
  have HA := fun w o => Lib.hid (HA w o)
  have HR := fun w o => Lib.hid (HR w o)
  clear hg ha hb
  obtain ⟨fn, fz, fc, fv⟩ := f
  simp only [F.val]
  go_enter Try.func6, Try.ntmps6
  go_wp2_with fail
  refine (HL _).out.mono ?_
  rintro e w1 ⟨rfl, hb1⟩
  obtain ⟨q1, hq1⟩ := fbox hb1
  have HQ1 := Lib.hid hq1
  have HB1 := Lib.hid (below_unalloc hb1)
  generalize hBe : w.heap.size = B at *
  have HBe := Lib.hid hBe
  clear hb1 hq1 hBe
  go_wp2_with fail
  go_loopw [11] (fun i wr => ∃ k : Int, (-1 ≤ k ∧ k ≤ 19) ∧ i = .int .i64 k ∧ B < wr.heap.size ∧ Hid (FB wr B fn fz fc fv) ∧ Hid (Below B w wr)) (fun i _ => (19 - intOf i).toNat)
  case atStart => exact ⟨-1, by omega, rfl, q1, HQ1, HB1⟩
  case round =>
    obtain ⟨k, hk, rfl, q2, HQ, HB⟩ := hrel
    clear HQ1 HB1 q1
    by_cases hk6 : k < 19
    · obtain ⟨d0, d1, d2, d3⟩ := HQ.out
      by_cases k0 : k < 0
      · have HAo := fun w => HA w op
        have HRo := fun w => HR w op
        generalize g op = m at HAo HRo
        obtain ⟨r, y, ⟨gn, gz, gc, gv⟩⟩ := m
        dsimp only at HAo HRo
        go_wp2_with fail
        refine (HAo _).out.mono ?_
        rintro e w2 ⟨rfl, hb⟩
        have HB2 := Lib.hid (below_then HB.out (Nat.le_of_lt q2) hb)
        have HQ2 := Lib.hid (fb_keep q2 hb HQ.out)
        have q3 := Nat.lt_of_lt_of_le q2 hb.size
        clear hb d0 d1 d2 d3
        obtain ⟨d0, d1, d2, d3⟩ := HQ2.out
        go_wp2_with fail
        refine (HRo _).out.mono ?_
        rintro e w3 ⟨rfl, hb⟩
        obtain ⟨s3, hf3⟩ := fbox hb
        have HF3 := Lib.hid hf3
        have HB3 := Lib.hid (below_then HB2.out (Nat.le_of_lt q3) (below_unalloc hb))
        have HQ3 := Lib.hid (fb_keep q3 (below_unalloc hb) HQ2.out)
        have q4 := Nat.lt_of_lt_of_le q3 (below_unalloc hb).size
        clear hb hf3 d0 d1 d2 d3
        obtain ⟨d0, d1, d2, d3⟩ := HF3.out
        go_upto_region 11 with fail
        have hg4 := fb_alloc w3 gn gz gc gv
        have hd4 := fb_keep s3 ((Below.refl _ w3).alloc (Nat.le_refl _) (.cells #[.bool gn, .bool gz, .bool gc, .bool gv] 25)) HF3.out
        have HB4 := Lib.hid (HB3.out.alloc (Nat.le_of_lt q4) (.cells #[.bool gn, .bool gz, .bool gc, .bool gv] 25))
        have HQ4 := Lib.hid (fb_keep q4 ((Below.refl _ w3).alloc (Nat.le_refl _) (.cells #[.bool gn, .bool gz, .bool gc, .bool gv] 25)) HQ3.out)
        have q5 : B < (w3.alloc (.cells #[.bool gn, .bool gz, .bool gc, .bool gv] 25)).heap.size := by rw [alloc_size]; omega
        clear d0 d1 d2 d3
        generalize w3.alloc (.cells #[.bool gn, .bool gz, .bool gc, .bool gv] 25) = w5 at *
        obtain ⟨c0, c1, c2, c3⟩ := hg4
        obtain ⟨d0, d1, d2, d3⟩ := hd4
        go_wp2_with fail
        go_roundw
        case rel => exact ⟨k + 1, by omega, by go_num, q5, HQ4, HB4⟩
        case measure => simp [intOf]; omega
      · have HAo := fun w => HA w k
        have HRo := fun w => HR w k
        generalize g k = m at HAo HRo
        obtain ⟨r, y, ⟨gn, gz, gc, gv⟩⟩ := m
        dsimp only at HAo HRo
        go_wp2_with fail
        refine (HAo _).out.mono ?_
        rintro e w2 ⟨rfl, hb⟩
        have HB2 := Lib.hid (below_then HB.out (Nat.le_of_lt q2) hb)
        have HQ2 := Lib.hid (fb_keep q2 hb HQ.out)
        have q3 := Nat.lt_of_lt_of_le q2 hb.size
        clear hb d0 d1 d2 d3
        obtain ⟨d0, d1, d2, d3⟩ := HQ2.out
        go_wp2_with fail
        refine (HRo _).out.mono ?_
        rintro e w3 ⟨rfl, hb⟩
        obtain ⟨s3, hf3⟩ := fbox hb
        have HF3 := Lib.hid hf3
        have HB3 := Lib.hid (below_then HB2.out (Nat.le_of_lt q3) (below_unalloc hb))
        have HQ3 := Lib.hid (fb_keep q3 (below_unalloc hb) HQ2.out)
        have q4 := Nat.lt_of_lt_of_le q3 (below_unalloc hb).size
        clear hb hf3 d0 d1 d2 d3
        obtain ⟨d0, d1, d2, d3⟩ := HF3.out
        go_upto_region 11 with fail
        have hg4 := fb_alloc w3 gn gz gc gv
        have hd4 := fb_keep s3 ((Below.refl _ w3).alloc (Nat.le_refl _) (.cells #[.bool gn, .bool gz, .bool gc, .bool gv] 25)) HF3.out
        have HB4 := Lib.hid (HB3.out.alloc (Nat.le_of_lt q4) (.cells #[.bool gn, .bool gz, .bool gc, .bool gv] 25))
        have HQ4 := Lib.hid (fb_keep q4 ((Below.refl _ w3).alloc (Nat.le_refl _) (.cells #[.bool gn, .bool gz, .bool gc, .bool gv] 25)) HQ3.out)
        have q5 : B < (w3.alloc (.cells #[.bool gn, .bool gz, .bool gc, .bool gv] 25)).heap.size := by rw [alloc_size]; omega
        clear d0 d1 d2 d3
        generalize w3.alloc (.cells #[.bool gn, .bool gz, .bool gc, .bool gv] 25) = w5 at *
        obtain ⟨c0, c1, c2, c3⟩ := hg4
        obtain ⟨d0, d1, d2, d3⟩ := hd4
        go_wp2_with fail
        go_roundw
        case rel => exact ⟨k + 1, by omega, by go_num, q5, HQ4, HB4⟩
        case measure => simp [intOf]; omega
    · go_wp2_with fail
      go_ret
      exact ⟨rfl, by rw [HBe.out]; exact HB.out⟩

end Go.Proofs.Yteakgeplefjncaa
