/- The walks of the closures behind Do's table. Printed by mkcl.py. -/
import Derived.Test.YteakgeplefjncaaSum
set_option linter.unusedVariables false
set_option linter.unusedSimpArgs false
namespace Go.Proofs.Yteakgeplefjncaa
open Go.RowKit

theorem and_closure (w : World) (p : Nat) (hp : w.cell? ⟨p, 0, none⟩ = some (.func (.func 54) #[] #[])) (hpl : p < w.heap.size) (a b : Int) (s : Bool) (f : F) (hg : W32 (bits .and .u32 a b)) :
    Calls Try.prog 68 #[u a, u b, .bool s, f.val, .pointer (some ⟨p, 0, none⟩)] w fun e w' => e = .returned (.tuple #[u (bits .and .u32 a b), (marks (bits .and .u32 a b) s f.v).val]) ∧ Below w.heap.size w w' := by
  obtain ⟨fn, fz, fc, fv⟩ := f
  have HI := fun w => Lib.hid (and_calls w a b)
  have HM := fun w => Lib.hid (marks_calls w _ s fv hg)
  generalize bits .and .u32 a b = r at *
  generalize marks r s fv = m at *
  obtain ⟨mn, mz, mc, mv⟩ := m
  simp only [F.val] at HM ⊢
  clear hg
  go_enter Try.func68, Try.ntmps68
  go_wp2_with fail
  refine (HI _).out.mono ?_
  rintro e w1 ⟨rfl, rfl⟩
  go_wp2_with fail
  refine (HM _).out.mono ?_
  rintro e w2 ⟨rfl, hb⟩
  obtain ⟨hz, hcc, hf⟩ := newbox hb
  have d0 := hcc 0 (.bool false) rfl
  have d1 := hcc 1 (.bool false) rfl
  have d2 := hcc 2 (.bool false) rfl
  have d3 := hcc 3 (.bool false) rfl
  have f0 := hf 0
  have f1 := hf 1
  have f2 := hf 2
  have f3 := hf 3
  simp only [show ∀ o, (w.alloc o).heap.size = w.heap.size + 1 from fun o => by simp] at d0 d1 d2 d3 f0 f1 f2 f3
  have HB := Lib.hid hb
  clear hb hcc hf
  go_wp2_with fail
  refine bodyPost_ret (v := .tuple #[u r, F.val ⟨mn, mz, mc, mv⟩]) (by simp [results, Try.results68, go_sem, F.val, d0, d1, d2, d3]) rfl ⟨rfl, ?_⟩
  have h1 := HB.out.mono (B' := w.heap.size) (by simp; omega)
  exact ((((Below.trans (((Below.refl _ w).alloc (Nat.le_refl _) _).alloc (by simp) _) h1).setCell (by simp) _).setCell (by simp) _).setCell (by simp) _).setCell (by simp) _

theorem eor_closure (w : World) (p : Nat) (hp : w.cell? ⟨p, 0, none⟩ = some (.func (.func 55) #[] #[])) (hpl : p < w.heap.size) (a b : Int) (s : Bool) (f : F) (hg : W32 (bits .xor .u32 a b)) :
    Calls Try.prog 68 #[u a, u b, .bool s, f.val, .pointer (some ⟨p, 0, none⟩)] w fun e w' => e = .returned (.tuple #[u (bits .xor .u32 a b), (marks (bits .xor .u32 a b) s f.v).val]) ∧ Below w.heap.size w w' := by
  obtain ⟨fn, fz, fc, fv⟩ := f
  have HI := fun w => Lib.hid (eor_calls w a b)
  have HM := fun w => Lib.hid (marks_calls w _ s fv hg)
  generalize bits .xor .u32 a b = r at *
  generalize marks r s fv = m at *
  obtain ⟨mn, mz, mc, mv⟩ := m
  simp only [F.val] at HM ⊢
  clear hg
  go_enter Try.func68, Try.ntmps68
  go_wp2_with fail
  refine (HI _).out.mono ?_
  rintro e w1 ⟨rfl, rfl⟩
  go_wp2_with fail
  refine (HM _).out.mono ?_
  rintro e w2 ⟨rfl, hb⟩
  obtain ⟨hz, hcc, hf⟩ := newbox hb
  have d0 := hcc 0 (.bool false) rfl
  have d1 := hcc 1 (.bool false) rfl
  have d2 := hcc 2 (.bool false) rfl
  have d3 := hcc 3 (.bool false) rfl
  have f0 := hf 0
  have f1 := hf 1
  have f2 := hf 2
  have f3 := hf 3
  simp only [show ∀ o, (w.alloc o).heap.size = w.heap.size + 1 from fun o => by simp] at d0 d1 d2 d3 f0 f1 f2 f3
  have HB := Lib.hid hb
  clear hb hcc hf
  go_wp2_with fail
  refine bodyPost_ret (v := .tuple #[u r, F.val ⟨mn, mz, mc, mv⟩]) (by simp [results, Try.results68, go_sem, F.val, d0, d1, d2, d3]) rfl ⟨rfl, ?_⟩
  have h1 := HB.out.mono (B' := w.heap.size) (by simp; omega)
  exact ((((Below.trans (((Below.refl _ w).alloc (Nat.le_refl _) _).alloc (by simp) _) h1).setCell (by simp) _).setCell (by simp) _).setCell (by simp) _).setCell (by simp) _

theorem orr_closure (w : World) (p : Nat) (hp : w.cell? ⟨p, 0, none⟩ = some (.func (.func 63) #[] #[])) (hpl : p < w.heap.size) (a b : Int) (s : Bool) (f : F) (hg : W32 (bits .or .u32 a b)) :
    Calls Try.prog 68 #[u a, u b, .bool s, f.val, .pointer (some ⟨p, 0, none⟩)] w fun e w' => e = .returned (.tuple #[u (bits .or .u32 a b), (marks (bits .or .u32 a b) s f.v).val]) ∧ Below w.heap.size w w' := by
  obtain ⟨fn, fz, fc, fv⟩ := f
  have HI := fun w => Lib.hid (orr_calls w a b)
  have HM := fun w => Lib.hid (marks_calls w _ s fv hg)
  generalize bits .or .u32 a b = r at *
  generalize marks r s fv = m at *
  obtain ⟨mn, mz, mc, mv⟩ := m
  simp only [F.val] at HM ⊢
  clear hg
  go_enter Try.func68, Try.ntmps68
  go_wp2_with fail
  refine (HI _).out.mono ?_
  rintro e w1 ⟨rfl, rfl⟩
  go_wp2_with fail
  refine (HM _).out.mono ?_
  rintro e w2 ⟨rfl, hb⟩
  obtain ⟨hz, hcc, hf⟩ := newbox hb
  have d0 := hcc 0 (.bool false) rfl
  have d1 := hcc 1 (.bool false) rfl
  have d2 := hcc 2 (.bool false) rfl
  have d3 := hcc 3 (.bool false) rfl
  have f0 := hf 0
  have f1 := hf 1
  have f2 := hf 2
  have f3 := hf 3
  simp only [show ∀ o, (w.alloc o).heap.size = w.heap.size + 1 from fun o => by simp] at d0 d1 d2 d3 f0 f1 f2 f3
  have HB := Lib.hid hb
  clear hb hcc hf
  go_wp2_with fail
  refine bodyPost_ret (v := .tuple #[u r, F.val ⟨mn, mz, mc, mv⟩]) (by simp [results, Try.results68, go_sem, F.val, d0, d1, d2, d3]) rfl ⟨rfl, ?_⟩
  have h1 := HB.out.mono (B' := w.heap.size) (by simp; omega)
  exact ((((Below.trans (((Below.refl _ w).alloc (Nat.le_refl _) _).alloc (by simp) _) h1).setCell (by simp) _).setCell (by simp) _).setCell (by simp) _).setCell (by simp) _

theorem mov_closure (w : World) (p : Nat) (hp : w.cell? ⟨p, 0, none⟩ = some (.func (.func 64) #[] #[])) (hpl : p < w.heap.size) (a b : Int) (s : Bool) (f : F) (hg : W32 (b)) :
    Calls Try.prog 68 #[u a, u b, .bool s, f.val, .pointer (some ⟨p, 0, none⟩)] w fun e w' => e = .returned (.tuple #[u (b), (marks (b) s f.v).val]) ∧ Below w.heap.size w w' := by
  obtain ⟨fn, fz, fc, fv⟩ := f
  have HI := fun w => Lib.hid (mov_calls w a b)
  have HM := fun w => Lib.hid (marks_calls w _ s fv hg)
  generalize b = r at *
  generalize marks r s fv = m at *
  obtain ⟨mn, mz, mc, mv⟩ := m
  simp only [F.val] at HM ⊢
  clear hg
  go_enter Try.func68, Try.ntmps68
  go_wp2_with fail
  refine (HI _).out.mono ?_
  rintro e w1 ⟨rfl, rfl⟩
  go_wp2_with fail
  refine (HM _).out.mono ?_
  rintro e w2 ⟨rfl, hb⟩
  obtain ⟨hz, hcc, hf⟩ := newbox hb
  have d0 := hcc 0 (.bool false) rfl
  have d1 := hcc 1 (.bool false) rfl
  have d2 := hcc 2 (.bool false) rfl
  have d3 := hcc 3 (.bool false) rfl
  have f0 := hf 0
  have f1 := hf 1
  have f2 := hf 2
  have f3 := hf 3
  simp only [show ∀ o, (w.alloc o).heap.size = w.heap.size + 1 from fun o => by simp] at d0 d1 d2 d3 f0 f1 f2 f3
  have HB := Lib.hid hb
  clear hb hcc hf
  go_wp2_with fail
  refine bodyPost_ret (v := .tuple #[u r, F.val ⟨mn, mz, mc, mv⟩]) (by simp [results, Try.results68, go_sem, F.val, d0, d1, d2, d3]) rfl ⟨rfl, ?_⟩
  have h1 := HB.out.mono (B' := w.heap.size) (by simp; omega)
  exact ((((Below.trans (((Below.refl _ w).alloc (Nat.le_refl _) _).alloc (by simp) _) h1).setCell (by simp) _).setCell (by simp) _).setCell (by simp) _).setCell (by simp) _

theorem bic_closure (w : World) (p : Nat) (hp : w.cell? ⟨p, 0, none⟩ = some (.func (.func 65) #[] #[])) (hpl : p < w.heap.size) (a b : Int) (s : Bool) (f : F) (hg : W32 (bits .andNot .u32 a b)) :
    Calls Try.prog 68 #[u a, u b, .bool s, f.val, .pointer (some ⟨p, 0, none⟩)] w fun e w' => e = .returned (.tuple #[u (bits .andNot .u32 a b), (marks (bits .andNot .u32 a b) s f.v).val]) ∧ Below w.heap.size w w' := by
  obtain ⟨fn, fz, fc, fv⟩ := f
  have HI := fun w => Lib.hid (bic_calls w a b)
  have HM := fun w => Lib.hid (marks_calls w _ s fv hg)
  generalize bits .andNot .u32 a b = r at *
  generalize marks r s fv = m at *
  obtain ⟨mn, mz, mc, mv⟩ := m
  simp only [F.val] at HM ⊢
  clear hg
  go_enter Try.func68, Try.ntmps68
  go_wp2_with fail
  refine (HI _).out.mono ?_
  rintro e w1 ⟨rfl, rfl⟩
  go_wp2_with fail
  refine (HM _).out.mono ?_
  rintro e w2 ⟨rfl, hb⟩
  obtain ⟨hz, hcc, hf⟩ := newbox hb
  have d0 := hcc 0 (.bool false) rfl
  have d1 := hcc 1 (.bool false) rfl
  have d2 := hcc 2 (.bool false) rfl
  have d3 := hcc 3 (.bool false) rfl
  have f0 := hf 0
  have f1 := hf 1
  have f2 := hf 2
  have f3 := hf 3
  simp only [show ∀ o, (w.alloc o).heap.size = w.heap.size + 1 from fun o => by simp] at d0 d1 d2 d3 f0 f1 f2 f3
  have HB := Lib.hid hb
  clear hb hcc hf
  go_wp2_with fail
  refine bodyPost_ret (v := .tuple #[u r, F.val ⟨mn, mz, mc, mv⟩]) (by simp [results, Try.results68, go_sem, F.val, d0, d1, d2, d3]) rfl ⟨rfl, ?_⟩
  have h1 := HB.out.mono (B' := w.heap.size) (by simp; omega)
  exact ((((Below.trans (((Below.refl _ w).alloc (Nat.le_refl _) _).alloc (by simp) _) h1).setCell (by simp) _).setCell (by simp) _).setCell (by simp) _).setCell (by simp) _

theorem mvn_closure (w : World) (p : Nat) (hp : w.cell? ⟨p, 0, none⟩ = some (.func (.func 66) #[] #[])) (hpl : p < w.heap.size) (a b : Int) (s : Bool) (f : F) (hg : W32 (NOT b)) :
    Calls Try.prog 68 #[u a, u b, .bool s, f.val, .pointer (some ⟨p, 0, none⟩)] w fun e w' => e = .returned (.tuple #[u (NOT b), (marks (NOT b) s f.v).val]) ∧ Below w.heap.size w w' := by
  obtain ⟨fn, fz, fc, fv⟩ := f
  have HI := fun w => Lib.hid (mvn_calls w a b)
  have HM := fun w => Lib.hid (marks_calls w _ s fv hg)
  generalize NOT b = r at *
  generalize marks r s fv = m at *
  obtain ⟨mn, mz, mc, mv⟩ := m
  simp only [F.val] at HM ⊢
  clear hg
  go_enter Try.func68, Try.ntmps68
  go_wp2_with fail
  refine (HI _).out.mono ?_
  rintro e w1 ⟨rfl, rfl⟩
  go_wp2_with fail
  refine (HM _).out.mono ?_
  rintro e w2 ⟨rfl, hb⟩
  obtain ⟨hz, hcc, hf⟩ := newbox hb
  have d0 := hcc 0 (.bool false) rfl
  have d1 := hcc 1 (.bool false) rfl
  have d2 := hcc 2 (.bool false) rfl
  have d3 := hcc 3 (.bool false) rfl
  have f0 := hf 0
  have f1 := hf 1
  have f2 := hf 2
  have f3 := hf 3
  simp only [show ∀ o, (w.alloc o).heap.size = w.heap.size + 1 from fun o => by simp] at d0 d1 d2 d3 f0 f1 f2 f3
  have HB := Lib.hid hb
  clear hb hcc hf
  go_wp2_with fail
  refine bodyPost_ret (v := .tuple #[u r, F.val ⟨mn, mz, mc, mv⟩]) (by simp [results, Try.results68, go_sem, F.val, d0, d1, d2, d3]) rfl ⟨rfl, ?_⟩
  have h1 := HB.out.mono (B' := w.heap.size) (by simp; omega)
  exact ((((Below.trans (((Below.refl _ w).alloc (Nat.le_refl _) _).alloc (by simp) _) h1).setCell (by simp) _).setCell (by simp) _).setCell (by simp) _).setCell (by simp) _

theorem sub_closure (w : World) (p : Nat) (hp : w.cell? ⟨p, 0, none⟩ = some (.func (.func 57) #[] #[])) (hpl : p < w.heap.size) (a b : Int) (s : Bool) (f : F) (hx : W32 a) (hy : W32 (NOT b)) :
    Calls Try.prog 69 #[u a, u b, .bool s, f.val, .pointer (some ⟨p, 0, none⟩)] w fun e w' => e = .returned (.tuple #[u (sum a (NOT b) true).1, (sum a (NOT b) true).2.val]) ∧ Below w.heap.size w w' := by
  obtain ⟨fn, fz, fc, fv⟩ := f
  have HI := fun w => Lib.hid (sub_calls w a b fc)
  have HM := fun w => Lib.hid (sum_calls w _ _ true hx hy)
  generalize sum a (NOT b) true = m at *
  obtain ⟨r, ⟨mn, mz, mc, mv⟩⟩ := m
  simp only [F.val] at HM ⊢
  clear hx hy
  go_enter Try.func69, Try.ntmps69
  go_wp2_with fail
  refine (HI _).out.mono ?_
  rintro e w1 ⟨rfl, rfl⟩
  go_wp2_with fail
  refine (HM _).out.mono ?_
  rintro e w2 ⟨rfl, hb⟩
  obtain ⟨hz, hcc, hf⟩ := newbox hb
  have d0 := hcc 0 (.bool false) rfl
  have d1 := hcc 1 (.bool false) rfl
  have d2 := hcc 2 (.bool false) rfl
  have d3 := hcc 3 (.bool false) rfl
  have f0 := hf 0
  have f1 := hf 1
  have f2 := hf 2
  have f3 := hf 3
  simp only [show ∀ o, (w.alloc o).heap.size = w.heap.size + 1 from fun o => by simp] at d0 d1 d2 d3 f0 f1 f2 f3
  have HB := Lib.hid hb
  clear hb hcc hf
  go_wp2_with fail
  refine bodyPost_ret (v := .tuple #[u r, F.val ⟨mn, mz, mc, mv⟩]) (by simp [results, Try.results69, go_sem, F.val, d0, d1, d2, d3]) rfl ⟨rfl, ?_⟩
  have h1 := HB.out.mono (B' := w.heap.size) (by simp; omega)
  exact ((((Below.trans (((Below.refl _ w).alloc (Nat.le_refl _) _).alloc (by simp) _) h1).setCell (by simp) _).setCell (by simp) _).setCell (by simp) _).setCell (by simp) _

theorem add_closure (w : World) (p : Nat) (hp : w.cell? ⟨p, 0, none⟩ = some (.func (.func 58) #[] #[])) (hpl : p < w.heap.size) (a b : Int) (s : Bool) (f : F) (hx : W32 a) (hy : W32 b) :
    Calls Try.prog 69 #[u a, u b, .bool s, f.val, .pointer (some ⟨p, 0, none⟩)] w fun e w' => e = .returned (.tuple #[u (sum a b false).1, (sum a b false).2.val]) ∧ Below w.heap.size w w' := by
  obtain ⟨fn, fz, fc, fv⟩ := f
  have HI := fun w => Lib.hid (add_calls w a b fc)
  have HM := fun w => Lib.hid (sum_calls w _ _ false hx hy)
  generalize sum a b false = m at *
  obtain ⟨r, ⟨mn, mz, mc, mv⟩⟩ := m
  simp only [F.val] at HM ⊢
  clear hx hy
  go_enter Try.func69, Try.ntmps69
  go_wp2_with fail
  refine (HI _).out.mono ?_
  rintro e w1 ⟨rfl, rfl⟩
  go_wp2_with fail
  refine (HM _).out.mono ?_
  rintro e w2 ⟨rfl, hb⟩
  obtain ⟨hz, hcc, hf⟩ := newbox hb
  have d0 := hcc 0 (.bool false) rfl
  have d1 := hcc 1 (.bool false) rfl
  have d2 := hcc 2 (.bool false) rfl
  have d3 := hcc 3 (.bool false) rfl
  have f0 := hf 0
  have f1 := hf 1
  have f2 := hf 2
  have f3 := hf 3
  simp only [show ∀ o, (w.alloc o).heap.size = w.heap.size + 1 from fun o => by simp] at d0 d1 d2 d3 f0 f1 f2 f3
  have HB := Lib.hid hb
  clear hb hcc hf
  go_wp2_with fail
  refine bodyPost_ret (v := .tuple #[u r, F.val ⟨mn, mz, mc, mv⟩]) (by simp [results, Try.results69, go_sem, F.val, d0, d1, d2, d3]) rfl ⟨rfl, ?_⟩
  have h1 := HB.out.mono (B' := w.heap.size) (by simp; omega)
  exact ((((Below.trans (((Below.refl _ w).alloc (Nat.le_refl _) _).alloc (by simp) _) h1).setCell (by simp) _).setCell (by simp) _).setCell (by simp) _).setCell (by simp) _

theorem rsb_closure (w : World) (p : Nat) (hp : w.cell? ⟨p, 0, none⟩ = some (.func (.func 59) #[] #[])) (hpl : p < w.heap.size) (a b : Int) (s : Bool) (f : F) (hx : W32 (NOT a)) (hy : W32 b) :
    Calls Try.prog 69 #[u a, u b, .bool s, f.val, .pointer (some ⟨p, 0, none⟩)] w fun e w' => e = .returned (.tuple #[u (sum (NOT a) b true).1, (sum (NOT a) b true).2.val]) ∧ Below w.heap.size w w' := by
  obtain ⟨fn, fz, fc, fv⟩ := f
  have HI := fun w => Lib.hid (rsb_calls w a b fc)
  have HM := fun w => Lib.hid (sum_calls w _ _ true hx hy)
  generalize sum (NOT a) b true = m at *
  obtain ⟨r, ⟨mn, mz, mc, mv⟩⟩ := m
  simp only [F.val] at HM ⊢
  clear hx hy
  go_enter Try.func69, Try.ntmps69
  go_wp2_with fail
  refine (HI _).out.mono ?_
  rintro e w1 ⟨rfl, rfl⟩
  go_wp2_with fail
  refine (HM _).out.mono ?_
  rintro e w2 ⟨rfl, hb⟩
  obtain ⟨hz, hcc, hf⟩ := newbox hb
  have d0 := hcc 0 (.bool false) rfl
  have d1 := hcc 1 (.bool false) rfl
  have d2 := hcc 2 (.bool false) rfl
  have d3 := hcc 3 (.bool false) rfl
  have f0 := hf 0
  have f1 := hf 1
  have f2 := hf 2
  have f3 := hf 3
  simp only [show ∀ o, (w.alloc o).heap.size = w.heap.size + 1 from fun o => by simp] at d0 d1 d2 d3 f0 f1 f2 f3
  have HB := Lib.hid hb
  clear hb hcc hf
  go_wp2_with fail
  refine bodyPost_ret (v := .tuple #[u r, F.val ⟨mn, mz, mc, mv⟩]) (by simp [results, Try.results69, go_sem, F.val, d0, d1, d2, d3]) rfl ⟨rfl, ?_⟩
  have h1 := HB.out.mono (B' := w.heap.size) (by simp; omega)
  exact ((((Below.trans (((Below.refl _ w).alloc (Nat.le_refl _) _).alloc (by simp) _) h1).setCell (by simp) _).setCell (by simp) _).setCell (by simp) _).setCell (by simp) _

theorem adc_closure (w : World) (p : Nat) (hp : w.cell? ⟨p, 0, none⟩ = some (.func (.func 60) #[] #[])) (hpl : p < w.heap.size) (a b : Int) (s : Bool) (f : F) (hx : W32 a) (hy : W32 b) :
    Calls Try.prog 69 #[u a, u b, .bool s, f.val, .pointer (some ⟨p, 0, none⟩)] w fun e w' => e = .returned (.tuple #[u (sum a b f.c).1, (sum a b f.c).2.val]) ∧ Below w.heap.size w w' := by
  obtain ⟨fn, fz, fc, fv⟩ := f
  have HI := fun w => Lib.hid (adc_calls w a b fc)
  have HM := fun w => Lib.hid (sum_calls w _ _ fc hx hy)
  generalize sum a b fc = m at *
  obtain ⟨r, ⟨mn, mz, mc, mv⟩⟩ := m
  simp only [F.val] at HM ⊢
  clear hx hy
  go_enter Try.func69, Try.ntmps69
  go_wp2_with fail
  refine (HI _).out.mono ?_
  rintro e w1 ⟨rfl, rfl⟩
  go_wp2_with fail
  refine (HM _).out.mono ?_
  rintro e w2 ⟨rfl, hb⟩
  obtain ⟨hz, hcc, hf⟩ := newbox hb
  have d0 := hcc 0 (.bool false) rfl
  have d1 := hcc 1 (.bool false) rfl
  have d2 := hcc 2 (.bool false) rfl
  have d3 := hcc 3 (.bool false) rfl
  have f0 := hf 0
  have f1 := hf 1
  have f2 := hf 2
  have f3 := hf 3
  simp only [show ∀ o, (w.alloc o).heap.size = w.heap.size + 1 from fun o => by simp] at d0 d1 d2 d3 f0 f1 f2 f3
  have HB := Lib.hid hb
  clear hb hcc hf
  go_wp2_with fail
  refine bodyPost_ret (v := .tuple #[u r, F.val ⟨mn, mz, mc, mv⟩]) (by simp [results, Try.results69, go_sem, F.val, d0, d1, d2, d3]) rfl ⟨rfl, ?_⟩
  have h1 := HB.out.mono (B' := w.heap.size) (by simp; omega)
  exact ((((Below.trans (((Below.refl _ w).alloc (Nat.le_refl _) _).alloc (by simp) _) h1).setCell (by simp) _).setCell (by simp) _).setCell (by simp) _).setCell (by simp) _

theorem sbc_closure (w : World) (p : Nat) (hp : w.cell? ⟨p, 0, none⟩ = some (.func (.func 61) #[] #[])) (hpl : p < w.heap.size) (a b : Int) (s : Bool) (f : F) (hx : W32 a) (hy : W32 (NOT b)) :
    Calls Try.prog 69 #[u a, u b, .bool s, f.val, .pointer (some ⟨p, 0, none⟩)] w fun e w' => e = .returned (.tuple #[u (sum a (NOT b) f.c).1, (sum a (NOT b) f.c).2.val]) ∧ Below w.heap.size w w' := by
  obtain ⟨fn, fz, fc, fv⟩ := f
  have HI := fun w => Lib.hid (sbc_calls w a b fc)
  have HM := fun w => Lib.hid (sum_calls w _ _ fc hx hy)
  generalize sum a (NOT b) fc = m at *
  obtain ⟨r, ⟨mn, mz, mc, mv⟩⟩ := m
  simp only [F.val] at HM ⊢
  clear hx hy
  go_enter Try.func69, Try.ntmps69
  go_wp2_with fail
  refine (HI _).out.mono ?_
  rintro e w1 ⟨rfl, rfl⟩
  go_wp2_with fail
  refine (HM _).out.mono ?_
  rintro e w2 ⟨rfl, hb⟩
  obtain ⟨hz, hcc, hf⟩ := newbox hb
  have d0 := hcc 0 (.bool false) rfl
  have d1 := hcc 1 (.bool false) rfl
  have d2 := hcc 2 (.bool false) rfl
  have d3 := hcc 3 (.bool false) rfl
  have f0 := hf 0
  have f1 := hf 1
  have f2 := hf 2
  have f3 := hf 3
  simp only [show ∀ o, (w.alloc o).heap.size = w.heap.size + 1 from fun o => by simp] at d0 d1 d2 d3 f0 f1 f2 f3
  have HB := Lib.hid hb
  clear hb hcc hf
  go_wp2_with fail
  refine bodyPost_ret (v := .tuple #[u r, F.val ⟨mn, mz, mc, mv⟩]) (by simp [results, Try.results69, go_sem, F.val, d0, d1, d2, d3]) rfl ⟨rfl, ?_⟩
  have h1 := HB.out.mono (B' := w.heap.size) (by simp; omega)
  exact ((((Below.trans (((Below.refl _ w).alloc (Nat.le_refl _) _).alloc (by simp) _) h1).setCell (by simp) _).setCell (by simp) _).setCell (by simp) _).setCell (by simp) _

theorem rsc_closure (w : World) (p : Nat) (hp : w.cell? ⟨p, 0, none⟩ = some (.func (.func 62) #[] #[])) (hpl : p < w.heap.size) (a b : Int) (s : Bool) (f : F) (hx : W32 (NOT a)) (hy : W32 b) :
    Calls Try.prog 69 #[u a, u b, .bool s, f.val, .pointer (some ⟨p, 0, none⟩)] w fun e w' => e = .returned (.tuple #[u (sum (NOT a) b f.c).1, (sum (NOT a) b f.c).2.val]) ∧ Below w.heap.size w w' := by
  obtain ⟨fn, fz, fc, fv⟩ := f
  have HI := fun w => Lib.hid (rsc_calls w a b fc)
  have HM := fun w => Lib.hid (sum_calls w _ _ fc hx hy)
  generalize sum (NOT a) b fc = m at *
  obtain ⟨r, ⟨mn, mz, mc, mv⟩⟩ := m
  simp only [F.val] at HM ⊢
  clear hx hy
  go_enter Try.func69, Try.ntmps69
  go_wp2_with fail
  refine (HI _).out.mono ?_
  rintro e w1 ⟨rfl, rfl⟩
  go_wp2_with fail
  refine (HM _).out.mono ?_
  rintro e w2 ⟨rfl, hb⟩
  obtain ⟨hz, hcc, hf⟩ := newbox hb
  have d0 := hcc 0 (.bool false) rfl
  have d1 := hcc 1 (.bool false) rfl
  have d2 := hcc 2 (.bool false) rfl
  have d3 := hcc 3 (.bool false) rfl
  have f0 := hf 0
  have f1 := hf 1
  have f2 := hf 2
  have f3 := hf 3
  simp only [show ∀ o, (w.alloc o).heap.size = w.heap.size + 1 from fun o => by simp] at d0 d1 d2 d3 f0 f1 f2 f3
  have HB := Lib.hid hb
  clear hb hcc hf
  go_wp2_with fail
  refine bodyPost_ret (v := .tuple #[u r, F.val ⟨mn, mz, mc, mv⟩]) (by simp [results, Try.results69, go_sem, F.val, d0, d1, d2, d3]) rfl ⟨rfl, ?_⟩
  have h1 := HB.out.mono (B' := w.heap.size) (by simp; omega)
  exact ((((Below.trans (((Below.refl _ w).alloc (Nat.le_refl _) _).alloc (by simp) _) h1).setCell (by simp) _).setCell (by simp) _).setCell (by simp) _).setCell (by simp) _

end Go.Proofs.Yteakgeplefjncaa
