/- Do at whatever number. Printed by mkdo.py. -/
import Derived.Test.YteakgeplefjncaaDoL
import Derived.Test.YteakgeplefjncaaDoS
set_option linter.unusedVariables false
set_option linter.unusedSimpArgs false
namespace Go.Proofs.Yteakgeplefjncaa
open Go.RowKit

theorem and_word (a b : Int) : W32 (bits .and .u32 a b) := by show W32 (IntKind.u32.wrap _); rw [IntKind.wrap_u32]; exact ⟨by omega, by omega⟩
theorem xor_word (a b : Int) : W32 (bits .xor .u32 a b) := by show W32 (IntKind.u32.wrap _); rw [IntKind.wrap_u32]; exact ⟨by omega, by omega⟩
theorem or_word (a b : Int) : W32 (bits .or .u32 a b) := by show W32 (IntKind.u32.wrap _); rw [IntKind.wrap_u32]; exact ⟨by omega, by omega⟩
theorem bic_word (a b : Int) : W32 (bits .andNot .u32 a b) := by show W32 (IntKind.u32.wrap _); rw [IntKind.wrap_u32]; exact ⟨by omega, by omega⟩
theorem not_word (a : Int) : W32 (NOT a) := xor_word _ _

theorem new_at (v : World) (o : Obj) (k : Nat) (h : k = v.heap.size) : (v.alloc o).heap[k]? = some o := by rw [h]; exact heap_alloc_new v o
def isLogic (op : Int) : Bool := op == 1 || op == 9 || op == 2 || op == 10 || op == 13 || op == 14 || op == 15 || op == 16
def logic (op a b : Int) : Int :=
  if op = 1 ∨ op = 9 then bits .and .u32 a b else if op = 2 ∨ op = 10 then bits .xor .u32 a b else if op = 13 then bits .or .u32 a b
  else if op = 14 then b else if op = 15 then bits .andNot .u32 a b else NOT b
def sums (op a b : Int) (f : F) : Int × F :=
  if op = 3 ∨ op = 11 then sum a (NOT b) true else if op = 4 then sum (NOT a) b true else if op = 5 ∨ op = 12 then sum a b false
  else if op = 6 then sum a b f.c else if op = 7 then sum a (NOT b) f.c else sum (NOT a) b f.c
/-- A data processing operation: the word, whether it is written, the flags. -/
def doM (op a b : Int) (s : Bool) (f : F) : Int × Bool × F :=
  if op < 1 ∨ 16 < op then (0, false, f)
  else if isLogic op then (logic op a b, writes op, marks (logic op a b) s f.v)
  else ((sums op a b f).1, writes op, (sums op a b f).2)
def D3 (x : Int × Bool × F) : Value := .tuple #[u x.1, .bool x.2.1, x.2.2.val]

theorem cell_and (W w3 : World) (h : IsTab W w3) : w3.cell? ⟨W.heap.size + 1, 0, none⟩ = some (.func (.func 54) #[] #[]) ∧ W.heap.size + 1 < w3.heap.size := by
  rw [h.eq]
  have h1 : (tableW W).heap[W.heap.size + 1]? = some (.cells #[.func (.func 54) #[] #[]] 78 (0, 0)) := by
    unfold tableW
    rw [Below.heap_alloc _ _ _ (by simp <;> omega), Below.heap_alloc _ _ _ (by simp <;> omega), Below.heap_alloc _ _ _ (by simp <;> omega), Below.heap_alloc _ _ _ (by simp <;> omega), Below.heap_alloc _ _ _ (by simp <;> omega), Below.heap_alloc _ _ _ (by simp <;> omega), Below.heap_alloc _ _ _ (by simp <;> omega), Below.heap_alloc _ _ _ (by simp <;> omega), Below.heap_alloc _ _ _ (by simp <;> omega), Below.heap_alloc _ _ _ (by simp <;> omega), Below.heap_alloc _ _ _ (by simp <;> omega)]
    exact new_at _ _ _ (by simp)
  exact ⟨(cell_of_row _ _ 0 _ _ _ h1).trans rfl, (Array.getElem?_eq_some_iff.1 h1).1⟩
theorem cell_eor (W w3 : World) (h : IsTab W w3) : w3.cell? ⟨W.heap.size + 2, 0, none⟩ = some (.func (.func 55) #[] #[]) ∧ W.heap.size + 2 < w3.heap.size := by
  rw [h.eq]
  have h1 : (tableW W).heap[W.heap.size + 2]? = some (.cells #[.func (.func 55) #[] #[]] 78 (0, 0)) := by
    unfold tableW
    rw [Below.heap_alloc _ _ _ (by simp <;> omega), Below.heap_alloc _ _ _ (by simp <;> omega), Below.heap_alloc _ _ _ (by simp <;> omega), Below.heap_alloc _ _ _ (by simp <;> omega), Below.heap_alloc _ _ _ (by simp <;> omega), Below.heap_alloc _ _ _ (by simp <;> omega), Below.heap_alloc _ _ _ (by simp <;> omega), Below.heap_alloc _ _ _ (by simp <;> omega), Below.heap_alloc _ _ _ (by simp <;> omega), Below.heap_alloc _ _ _ (by simp <;> omega)]
    exact new_at _ _ _ (by simp)
  exact ⟨(cell_of_row _ _ 0 _ _ _ h1).trans rfl, (Array.getElem?_eq_some_iff.1 h1).1⟩
theorem cell_sub (W w3 : World) (h : IsTab W w3) : w3.cell? ⟨W.heap.size + 3, 0, none⟩ = some (.func (.func 57) #[] #[]) ∧ W.heap.size + 3 < w3.heap.size := by
  rw [h.eq]
  have h1 : (tableW W).heap[W.heap.size + 3]? = some (.cells #[.func (.func 57) #[] #[]] 80 (0, 0)) := by
    unfold tableW
    rw [Below.heap_alloc _ _ _ (by simp <;> omega), Below.heap_alloc _ _ _ (by simp <;> omega), Below.heap_alloc _ _ _ (by simp <;> omega), Below.heap_alloc _ _ _ (by simp <;> omega), Below.heap_alloc _ _ _ (by simp <;> omega), Below.heap_alloc _ _ _ (by simp <;> omega), Below.heap_alloc _ _ _ (by simp <;> omega), Below.heap_alloc _ _ _ (by simp <;> omega), Below.heap_alloc _ _ _ (by simp <;> omega)]
    exact new_at _ _ _ (by simp)
  exact ⟨(cell_of_row _ _ 0 _ _ _ h1).trans rfl, (Array.getElem?_eq_some_iff.1 h1).1⟩
theorem cell_add (W w3 : World) (h : IsTab W w3) : w3.cell? ⟨W.heap.size + 4, 0, none⟩ = some (.func (.func 58) #[] #[]) ∧ W.heap.size + 4 < w3.heap.size := by
  rw [h.eq]
  have h1 : (tableW W).heap[W.heap.size + 4]? = some (.cells #[.func (.func 58) #[] #[]] 80 (0, 0)) := by
    unfold tableW
    rw [Below.heap_alloc _ _ _ (by simp <;> omega), Below.heap_alloc _ _ _ (by simp <;> omega), Below.heap_alloc _ _ _ (by simp <;> omega), Below.heap_alloc _ _ _ (by simp <;> omega), Below.heap_alloc _ _ _ (by simp <;> omega), Below.heap_alloc _ _ _ (by simp <;> omega), Below.heap_alloc _ _ _ (by simp <;> omega), Below.heap_alloc _ _ _ (by simp <;> omega)]
    exact new_at _ _ _ (by simp)
  exact ⟨(cell_of_row _ _ 0 _ _ _ h1).trans rfl, (Array.getElem?_eq_some_iff.1 h1).1⟩
theorem cell_rsb (W w3 : World) (h : IsTab W w3) : w3.cell? ⟨W.heap.size + 5, 0, none⟩ = some (.func (.func 59) #[] #[]) ∧ W.heap.size + 5 < w3.heap.size := by
  rw [h.eq]
  have h1 : (tableW W).heap[W.heap.size + 5]? = some (.cells #[.func (.func 59) #[] #[]] 80 (0, 0)) := by
    unfold tableW
    rw [Below.heap_alloc _ _ _ (by simp <;> omega), Below.heap_alloc _ _ _ (by simp <;> omega), Below.heap_alloc _ _ _ (by simp <;> omega), Below.heap_alloc _ _ _ (by simp <;> omega), Below.heap_alloc _ _ _ (by simp <;> omega), Below.heap_alloc _ _ _ (by simp <;> omega), Below.heap_alloc _ _ _ (by simp <;> omega)]
    exact new_at _ _ _ (by simp)
  exact ⟨(cell_of_row _ _ 0 _ _ _ h1).trans rfl, (Array.getElem?_eq_some_iff.1 h1).1⟩
theorem cell_adc (W w3 : World) (h : IsTab W w3) : w3.cell? ⟨W.heap.size + 6, 0, none⟩ = some (.func (.func 60) #[] #[]) ∧ W.heap.size + 6 < w3.heap.size := by
  rw [h.eq]
  have h1 : (tableW W).heap[W.heap.size + 6]? = some (.cells #[.func (.func 60) #[] #[]] 80 (0, 0)) := by
    unfold tableW
    rw [Below.heap_alloc _ _ _ (by simp <;> omega), Below.heap_alloc _ _ _ (by simp <;> omega), Below.heap_alloc _ _ _ (by simp <;> omega), Below.heap_alloc _ _ _ (by simp <;> omega), Below.heap_alloc _ _ _ (by simp <;> omega), Below.heap_alloc _ _ _ (by simp <;> omega)]
    exact new_at _ _ _ (by simp)
  exact ⟨(cell_of_row _ _ 0 _ _ _ h1).trans rfl, (Array.getElem?_eq_some_iff.1 h1).1⟩
theorem cell_sbc (W w3 : World) (h : IsTab W w3) : w3.cell? ⟨W.heap.size + 7, 0, none⟩ = some (.func (.func 61) #[] #[]) ∧ W.heap.size + 7 < w3.heap.size := by
  rw [h.eq]
  have h1 : (tableW W).heap[W.heap.size + 7]? = some (.cells #[.func (.func 61) #[] #[]] 80 (0, 0)) := by
    unfold tableW
    rw [Below.heap_alloc _ _ _ (by simp <;> omega), Below.heap_alloc _ _ _ (by simp <;> omega), Below.heap_alloc _ _ _ (by simp <;> omega), Below.heap_alloc _ _ _ (by simp <;> omega), Below.heap_alloc _ _ _ (by simp <;> omega)]
    exact new_at _ _ _ (by simp)
  exact ⟨(cell_of_row _ _ 0 _ _ _ h1).trans rfl, (Array.getElem?_eq_some_iff.1 h1).1⟩
theorem cell_rsc (W w3 : World) (h : IsTab W w3) : w3.cell? ⟨W.heap.size + 8, 0, none⟩ = some (.func (.func 62) #[] #[]) ∧ W.heap.size + 8 < w3.heap.size := by
  rw [h.eq]
  have h1 : (tableW W).heap[W.heap.size + 8]? = some (.cells #[.func (.func 62) #[] #[]] 80 (0, 0)) := by
    unfold tableW
    rw [Below.heap_alloc _ _ _ (by simp <;> omega), Below.heap_alloc _ _ _ (by simp <;> omega), Below.heap_alloc _ _ _ (by simp <;> omega), Below.heap_alloc _ _ _ (by simp <;> omega)]
    exact new_at _ _ _ (by simp)
  exact ⟨(cell_of_row _ _ 0 _ _ _ h1).trans rfl, (Array.getElem?_eq_some_iff.1 h1).1⟩
theorem cell_orr (W w3 : World) (h : IsTab W w3) : w3.cell? ⟨W.heap.size + 9, 0, none⟩ = some (.func (.func 63) #[] #[]) ∧ W.heap.size + 9 < w3.heap.size := by
  rw [h.eq]
  have h1 : (tableW W).heap[W.heap.size + 9]? = some (.cells #[.func (.func 63) #[] #[]] 78 (0, 0)) := by
    unfold tableW
    rw [Below.heap_alloc _ _ _ (by simp <;> omega), Below.heap_alloc _ _ _ (by simp <;> omega), Below.heap_alloc _ _ _ (by simp <;> omega)]
    exact new_at _ _ _ (by simp)
  exact ⟨(cell_of_row _ _ 0 _ _ _ h1).trans rfl, (Array.getElem?_eq_some_iff.1 h1).1⟩
theorem cell_mov (W w3 : World) (h : IsTab W w3) : w3.cell? ⟨W.heap.size + 10, 0, none⟩ = some (.func (.func 64) #[] #[]) ∧ W.heap.size + 10 < w3.heap.size := by
  rw [h.eq]
  have h1 : (tableW W).heap[W.heap.size + 10]? = some (.cells #[.func (.func 64) #[] #[]] 78 (0, 0)) := by
    unfold tableW
    rw [Below.heap_alloc _ _ _ (by simp <;> omega), Below.heap_alloc _ _ _ (by simp <;> omega)]
    exact new_at _ _ _ (by simp)
  exact ⟨(cell_of_row _ _ 0 _ _ _ h1).trans rfl, (Array.getElem?_eq_some_iff.1 h1).1⟩
theorem cell_bic (W w3 : World) (h : IsTab W w3) : w3.cell? ⟨W.heap.size + 11, 0, none⟩ = some (.func (.func 65) #[] #[]) ∧ W.heap.size + 11 < w3.heap.size := by
  rw [h.eq]
  have h1 : (tableW W).heap[W.heap.size + 11]? = some (.cells #[.func (.func 65) #[] #[]] 78 (0, 0)) := by
    unfold tableW
    rw [Below.heap_alloc _ _ _ (by simp <;> omega)]
    exact new_at _ _ _ (by simp)
  exact ⟨(cell_of_row _ _ 0 _ _ _ h1).trans rfl, (Array.getElem?_eq_some_iff.1 h1).1⟩
theorem cell_mvn (W w3 : World) (h : IsTab W w3) : w3.cell? ⟨W.heap.size + 12, 0, none⟩ = some (.func (.func 66) #[] #[]) ∧ W.heap.size + 12 < w3.heap.size := by
  rw [h.eq]
  have h1 : (tableW W).heap[W.heap.size + 12]? = some (.cells #[.func (.func 66) #[] #[]] 78 (0, 0)) := by
    unfold tableW
    exact new_at _ _ _ (by simp)
  exact ⟨(cell_of_row _ _ 0 _ _ _ h1).trans rfl, (Array.getElem?_eq_some_iff.1 h1).1⟩

theorem do_out (w : World) (op a b : Int) (s : Bool) (f : F) (h : op < 1 ∨ 16 < op) :
    Calls Try.prog 26 #[.int .i64 op, u a, u b, .bool s, f.val] w fun e w' => e = .returned (.tuple #[u 0, .bool false, f.val]) ∧ Below w.heap.size w w' := by
  obtain ⟨fn, fz, fc, fv⟩ := f
  simp only [F.val]
  rcases h with h | h
  · go_enter Try.func26, Try.ntmps26
    go_wp2_with fail
    go_region
    go_wp2_with fail
    exact bodyPost_ret (v := .tuple #[u 0, .bool false, .agg #[.bool fn, .bool fz, .bool fc, .bool fv]]) (by simp [results, Try.results26, go_sem]) rfl ⟨rfl, (((Below.refl _ _).alloc (Nat.le_refl _) _).alloc (by simp) _).drew⟩
  · have h1 : ¬ op < 1 := by omega
    go_enter Try.func26, Try.ntmps26
    go_wp2_with fail
    go_region
    go_wp2_with fail
    exact bodyPost_ret (v := .tuple #[u 0, .bool false, .agg #[.bool fn, .bool fz, .bool fc, .bool fv]]) (by simp [results, Try.results26, go_sem]) rfl ⟨rfl, (((Below.refl _ _).alloc (Nat.le_refl _) _).alloc (by simp) _).drew⟩

theorem do_calls (w : World) (op a b : Int) (s : Bool) (f : F) (ha : W32 a) (hb : W32 b) :
    Calls Try.prog 26 #[.int .i64 op, u a, u b, .bool s, f.val] w fun e w' => e = .returned (D3 (doM op a b s f)) ∧ Below w.heap.size w w' := by
  by_cases h : op < 1 ∨ 16 < op
  · have e : doM op a b s f = (0, false, f) := if_pos h
    rw [e]
    exact do_out w op a b s f h
  rcases (show op = 1 ∨ op = 2 ∨ op = 3 ∨ op = 4 ∨ op = 5 ∨ op = 6 ∨ op = 7 ∨ op = 8 ∨ op = 9 ∨ op = 10 ∨ op = 11 ∨ op = 12 ∨ op = 13 ∨ op = 14 ∨ op = 15 ∨ op = 16 by omega) with rfl | rfl | rfl | rfl | rfl | rfl | rfl | rfl | rfl | rfl | rfl | rfl | rfl | rfl | rfl | rfl
  · exact do68 w 1 a b s f _ _ 54 1 (by omega) (fun _ _ => by kernel_rfl) cell_and (fun p w' h1 h2 => and_closure w' p h1 h2 a b s f (and_word a b))
  · exact do68 w 2 a b s f _ _ 55 2 (by omega) (fun _ _ => by kernel_rfl) cell_eor (fun p w' h1 h2 => eor_closure w' p h1 h2 a b s f (xor_word a b))
  · exact do69 w 3 a b s f _ _ 57 3 (by omega) (fun _ _ => by kernel_rfl) cell_sub (fun p w' h1 h2 => sub_closure w' p h1 h2 a b s f ha (not_word b))
  · exact do69 w 4 a b s f _ _ 59 5 (by omega) (fun _ _ => by kernel_rfl) cell_rsb (fun p w' h1 h2 => rsb_closure w' p h1 h2 a b s f (not_word a) hb)
  · exact do69 w 5 a b s f _ _ 58 4 (by omega) (fun _ _ => by kernel_rfl) cell_add (fun p w' h1 h2 => add_closure w' p h1 h2 a b s f ha hb)
  · exact do69 w 6 a b s f _ _ 60 6 (by omega) (fun _ _ => by kernel_rfl) cell_adc (fun p w' h1 h2 => adc_closure w' p h1 h2 a b s f ha hb)
  · exact do69 w 7 a b s f _ _ 61 7 (by omega) (fun _ _ => by kernel_rfl) cell_sbc (fun p w' h1 h2 => sbc_closure w' p h1 h2 a b s f ha (not_word b))
  · exact do69 w 8 a b s f _ _ 62 8 (by omega) (fun _ _ => by kernel_rfl) cell_rsc (fun p w' h1 h2 => rsc_closure w' p h1 h2 a b s f (not_word a) hb)
  · exact do68 w 9 a b s f _ _ 54 1 (by omega) (fun _ _ => by kernel_rfl) cell_and (fun p w' h1 h2 => and_closure w' p h1 h2 a b s f (and_word a b))
  · exact do68 w 10 a b s f _ _ 55 2 (by omega) (fun _ _ => by kernel_rfl) cell_eor (fun p w' h1 h2 => eor_closure w' p h1 h2 a b s f (xor_word a b))
  · exact do69 w 11 a b s f _ _ 57 3 (by omega) (fun _ _ => by kernel_rfl) cell_sub (fun p w' h1 h2 => sub_closure w' p h1 h2 a b s f ha (not_word b))
  · exact do69 w 12 a b s f _ _ 58 4 (by omega) (fun _ _ => by kernel_rfl) cell_add (fun p w' h1 h2 => add_closure w' p h1 h2 a b s f ha hb)
  · exact do68 w 13 a b s f _ _ 63 9 (by omega) (fun _ _ => by kernel_rfl) cell_orr (fun p w' h1 h2 => orr_closure w' p h1 h2 a b s f (or_word a b))
  · exact do68 w 14 a b s f _ _ 64 10 (by omega) (fun _ _ => by kernel_rfl) cell_mov (fun p w' h1 h2 => mov_closure w' p h1 h2 a b s f hb)
  · exact do68 w 15 a b s f _ _ 65 11 (by omega) (fun _ _ => by kernel_rfl) cell_bic (fun p w' h1 h2 => bic_closure w' p h1 h2 a b s f (bic_word a b))
  · exact do68 w 16 a b s f _ _ 66 12 (by omega) (fun _ _ => by kernel_rfl) cell_mvn (fun p w' h1 h2 => mvn_closure w' p h1 h2 a b s f (not_word b))
end Go.Proofs.Yteakgeplefjncaa
