/- The walk of Do at a sum. -/
import Derived.Test.YteakgeplefjncaaDoM
set_option linter.unusedVariables false
set_option linter.unusedSimpArgs false
namespace Go.Proofs.Yteakgeplefjncaa
open Go.RowKit

set_option maxRecDepth 100000 in
set_option maxHeartbeats 4000000 in
theorem do69 (w : World) (op a b : Int) (s : Bool) (f g : F) (r : Int) (k i : Nat) (hop : 1 ≤ op ∧ op ≤ 16)
    (hidx : ∀ b0 w', (Instr.index 68 (tableV b0) (.int .i64 op)).run Try.prog w' = .ok (.func (.func 69) #[] #[.pointer (some ⟨b0 + i, 0, none⟩)]) w')
    (hcell : ∀ (W w3 : World), IsTab W w3 → w3.cell? ⟨W.heap.size + i, 0, none⟩ = some (.func (.func k) #[] #[]) ∧ W.heap.size + i < w3.heap.size)
    (hcl : ∀ p w', w'.cell? ⟨p, 0, none⟩ = some (.func (.func k) #[] #[]) → p < w'.heap.size → Calls Try.prog 69 #[u a, u b, .bool s, f.val, .pointer (some ⟨p, 0, none⟩)] w' fun e w'' => e = .returned (.tuple #[u r, g.val]) ∧ Below w'.heap.size w' w'') :
    Calls Try.prog 26 #[.int .i64 op, u a, u b, .bool s, f.val] w fun e w' => e = .returned (.tuple #[u r, .bool (writes op), g.val]) ∧ Below w.heap.size w w' := by
  have HOp := fun w => Lib.hid (operations_tab w)
  have HCl := Lib.hid hcl
  obtain ⟨fn, fz, fc, fv⟩ := f
  obtain ⟨gn, gz, gc, gv⟩ := g
  obtain ⟨o1, o2⟩ := hop
  have o3 : ¬ op < 1 := by omega
  have o4 : ¬ 16 < op := by omega
  clear hcl
  simp only [F.val] at *
  go_enter Try.func26, Try.ntmps26
  go_upto_region 3 with fail
  have d : ((w.alloc (Obj.cells #[Value.bool fn, Value.bool fz, Value.bool fc, Value.bool fv] 25)).alloc (Obj.cells #[Value.bool false, Value.bool false, Value.bool false, Value.bool false] 25)).cell? ⟨w.heap.size, 0, none⟩ = some (.bool fn) ∧ ((w.alloc (Obj.cells #[Value.bool fn, Value.bool fz, Value.bool fc, Value.bool fv] 25)).alloc (Obj.cells #[Value.bool false, Value.bool false, Value.bool false, Value.bool false] 25)).cell? ⟨w.heap.size, 1, none⟩ = some (.bool fz) ∧ ((w.alloc (Obj.cells #[Value.bool fn, Value.bool fz, Value.bool fc, Value.bool fv] 25)).alloc (Obj.cells #[Value.bool false, Value.bool false, Value.bool false, Value.bool false] 25)).cell? ⟨w.heap.size, 2, none⟩ = some (.bool fc) ∧ ((w.alloc (Obj.cells #[Value.bool fn, Value.bool fz, Value.bool fc, Value.bool fv] 25)).alloc (Obj.cells #[Value.bool false, Value.bool false, Value.bool false, Value.bool false] 25)).cell? ⟨w.heap.size, 3, none⟩ = some (.bool fv) := ⟨by simp, by simp, by simp, by simp⟩
  have z := heap_alloc_new (w.alloc (Obj.cells #[Value.bool fn, Value.bool fz, Value.bool fc, Value.bool fv] 25)) (Obj.cells #[Value.bool false, Value.bool false, Value.bool false, Value.bool false] 25)
  rw [alloc_size] at z
  have hB : Below w.heap.size w ((w.alloc (Obj.cells #[Value.bool fn, Value.bool fz, Value.bool fc, Value.bool fv] 25)).alloc (Obj.cells #[Value.bool false, Value.bool false, Value.bool false, Value.bool false] 25)) := ((Below.refl _ w).alloc (Nat.le_refl _) _).alloc (by simp) _
  have hs : ((w.alloc (Obj.cells #[Value.bool fn, Value.bool fz, Value.bool fc, Value.bool fv] 25)).alloc (Obj.cells #[Value.bool false, Value.bool false, Value.bool false, Value.bool false] 25)).heap.size = w.heap.size + 2 := by simp
  generalize (w.alloc (Obj.cells #[Value.bool fn, Value.bool fz, Value.bool fc, Value.bool fv] 25)).alloc (Obj.cells #[Value.bool false, Value.bool false, Value.bool false, Value.bool false] 25) = v at *
  have HB := Lib.hid hB
  have Hs := Lib.hid hs
  have Hd := Lib.hid d
  have Hz := Lib.hid z
  have hp : w.heap.size < v.heap.size := by omega
  clear hB d z hs
  generalize hBe : w.heap.size = B at *
  have HBe := Lib.hid hBe
  clear hBe
  go_cut [13, 14] from 22 to 32 (fun x p wx => x = u r ∧ ∃ q, p = .pointer (some ⟨q, 0, none⟩) ∧ Hid (v.heap.size ≤ q ∧ FB wx q gn gz gc gv ∧ Below v.heap.size v wx))
  case first =>
    obtain ⟨d0, d1, d2, d3⟩ := Hd.out
    have Hc := Lib.hid hcell
    clear hcell
    go_region_held3 (fun w' => w'.cell? ⟨B, 0, none⟩ = some (.bool fn) ∧ w'.cell? ⟨B, 1, none⟩ = some (.bool fz) ∧ w'.cell? ⟨B, 2, none⟩ = some (.bool fc) ∧ w'.cell? ⟨B, 3, none⟩ = some (.bool fv))
      (first | exact ⟨d0, d1, d2, d3⟩ | exact box4 hp hb5.out ⟨d0, d1, d2, d3⟩ | exact box4 hp hb3.out ⟨d0, d1, d2, d3⟩ | exact box4 hp (Below.alloc hb5.out hb5.out.size _) ⟨d0, d1, d2, d3⟩ | exact box4 hp (Below.alloc hb3.out hb3.out.size _) ⟨d0, d1, d2, d3⟩ | exact box4 hp (Below.alloc (Below.refl _ _) (Nat.le_refl _) _) ⟨d0, d1, d2, d3⟩ | exact box4 hp (Below.drew (Below.alloc (Below.refl _ _) (Nat.le_refl _) _)) ⟨d0, d1, d2, d3⟩ | exact box4 hp (Below.setCell (Below.setCell (Below.setCell (Below.setCell hb5.out (p := ⟨v.heap.size, 0, none⟩) (Nat.le_refl _) _) (p := ⟨v.heap.size, 1, none⟩) (Nat.le_refl _) _) (p := ⟨v.heap.size, 2, none⟩) (Nat.le_refl _) _) (p := ⟨v.heap.size, 3, none⟩) (Nat.le_refl _) _) ⟨d0, d1, d2, d3⟩ | exact box4 hp (Below.setCell (Below.setCell (Below.setCell (Below.setCell hb5.out (p := ⟨w3.heap.size, 0, none⟩) hb3.out.size _) (p := ⟨w3.heap.size, 1, none⟩) hb3.out.size _) (p := ⟨w3.heap.size, 2, none⟩) hb3.out.size _) (p := ⟨w3.heap.size, 3, none⟩) hb3.out.size _) ⟨d0, d1, d2, d3⟩ | fail)
      (first
        | (go_simp; go_at_call 48; refine (HOp _).out.mono ?_; rintro e w3 ⟨rfl, hw3⟩; have hc3 := Lib.hid (Hc.out _ _ hw3); (try simp only [alloc_size, alloc_size', drew_size] at hc3); have hb3 : Hid (Below v.heap.size v w3) := (by first | exact Lib.hid (below_undrew (table_of hw3)) | exact Lib.hid (below_unboth (table_of hw3)) | exact Lib.hid (below_unalloc (table_of hw3)) | exact Lib.hid (table_of hw3) | fail); have h3 := fun b i (h : b < _) => (table_of hw3).cell (p := ⟨b, i, none⟩) h; have g3 := fun b i (h : b < _) => (table_of hw3).frozen (p := ⟨b, i, none⟩) h; (try simp only [alloc_size, alloc_size', drew_size] at h3 g3); clear hw3; have s3 : v.heap.size < w3.heap.size := (by have := hc3.out.2; omega); go_simp)
        | (go_simp; go_at_call 69; refine (HCl.out _ _ (by first | exact hc3.out.1 | exact (((Below.refl _ _).alloc (Nat.le_refl _) _).cell hc3.out.2).trans hc3.out.1 | fail) (by first | exact hc3.out.2 | (rw [alloc_size]; exact Nat.lt_succ_of_lt hc3.out.2) | fail)).mono ?_; rintro e w4 ⟨rfl, hb4⟩; have hb5 : Hid (Below v.heap.size v w4) := (by first | exact Lib.hid (below_then hb3.out hb3.out.size hb4) | exact Lib.hid (below_then hb3.out hb3.out.size (below_unalloc hb4)) | exact Lib.hid (below_then hb3.out hb3.out.size (below_unboth hb4)) | exact Lib.hid (below_then hb3.out hb3.out.size (below_undrew hb4)) | fail); have h4 := fun b i (h : b < _) => hb4.cell (p := ⟨b, i, none⟩) h; have g4 := fun b i (h : b < _) => hb4.frozen (p := ⟨b, i, none⟩) h; (try simp only [alloc_size, alloc_size', drew_size] at h4 g4); clear hb4; go_simp))
    · go_wp2_with fail
      go_meet
      exact ⟨rfl, _, rfl, Lib.hid ⟨hb5.out.size, fb_alloc _ _ _ _ _, hb5.out.alloc hb5.out.size _⟩⟩
    · have z4 : FB w4 w3.heap.size false false false false := ⟨(h4 _ 0 (Nat.lt_succ_self _)).trans (by simp), (h4 _ 1 (Nat.lt_succ_self _)).trans (by simp), (h4 _ 2 (Nat.lt_succ_self _)).trans (by simp), (h4 _ 3 (Nat.lt_succ_self _)).trans (by simp)⟩
      go_wp2_with fail
      go_meet
      exact ⟨rfl, _, rfl, Lib.hid ⟨hb3.out.size, fb_set z4 _ _ _ _, below_set hb5.out hb3.out.size _ _ _ _⟩⟩
    · have z4 : FB w4 w3.heap.size false false false false := ⟨(h4 _ 0 (Nat.lt_succ_self _)).trans (by simp), (h4 _ 1 (Nat.lt_succ_self _)).trans (by simp), (h4 _ 2 (Nat.lt_succ_self _)).trans (by simp), (h4 _ 3 (Nat.lt_succ_self _)).trans (by simp)⟩
      go_wp2_with fail
      go_meet
      exact ⟨rfl, _, rfl, Lib.hid ⟨hb3.out.size, fb_set z4 _ _ _ _, below_set hb5.out hb3.out.size _ _ _ _⟩⟩
    · have z4 : FB w4 v.heap.size false false false false := ⟨((h4 _ 0 s3).trans (h3 _ 0 (Nat.lt_succ_self _))).trans (by simp), ((h4 _ 1 s3).trans (h3 _ 1 (Nat.lt_succ_self _))).trans (by simp), ((h4 _ 2 s3).trans (h3 _ 2 (Nat.lt_succ_self _))).trans (by simp), ((h4 _ 3 s3).trans (h3 _ 3 (Nat.lt_succ_self _))).trans (by simp)⟩
      go_wp2_with fail
      go_meet
      exact ⟨rfl, _, rfl, Lib.hid ⟨Nat.le_refl _, fb_set z4 _ _ _ _, below_set hb5.out (Nat.le_refl _) _ _ _ _⟩⟩
  case rest =>
    obtain ⟨rfl, q, rfl, hq⟩ := hcut
    obtain ⟨hq1, ⟨c0, c1, c2, c3⟩, hbq⟩ := hq.out
    have hs := Hs.out
    have z2 : wc.heap[B + 1]? = some (.cells #[.bool false, .bool false, .bool false, .bool false] 25 (0, 0)) := (hbq.block _ (by omega)).trans Hz.out
    have y0 := cell_of_row wc _ 0 _ _ _ z2
    have y1 := cell_of_row wc _ 1 _ _ _ z2
    have y2 := cell_of_row wc _ 2 _ _ _ z2
    have y3 := cell_of_row wc _ 3 _ _ _ z2
    have HBq := Lib.hid hbq
    have y4 : ∀ i, wc.frozen? ⟨B + 1, i, none⟩ = false := fun i => by simp [World.frozen?, z2]
    simp only [List.getElem?_toArray, List.getElem?_cons_zero, List.getElem?_cons_succ] at y0 y1 y2 y3
    clear hbq z2 hq HCl hcell hidx
    have n0 : ¬ q = B + 1 := by omega
    have n1 : ¬ B + 1 = q := by omega
    by_cases h9 : op < 9
    · have HW : Hid (writes op = true) := Lib.hid (by simp [writes, h9])
      go_upto_region 4 with fail
      go_region
      go_wp2_with fail
      exact bodyPost_ret (v := .tuple #[u r, .bool true, .agg #[.bool gn, .bool gz, .bool gc, .bool gv]]) (by simp [results, Try.results26, go_sem, c0, c1, c2, c3, y0, y1, y2, y3]) rfl ⟨by rw [HW.out], by rw [HBe.out]; exact (below_set (below_then HB.out (by omega) HBq.out) (Nat.le_succ _) _ _ _ _).drew⟩
    · by_cases h12 : 12 < op
      · have HW : Hid (writes op = true) := Lib.hid (by simp [writes, h12])
        go_upto_region 4 with fail
        go_region
        go_wp2_with fail
        exact bodyPost_ret (v := .tuple #[u r, .bool true, .agg #[.bool gn, .bool gz, .bool gc, .bool gv]]) (by simp [results, Try.results26, go_sem, c0, c1, c2, c3, y0, y1, y2, y3]) rfl ⟨by rw [HW.out], by rw [HBe.out]; exact (below_set (below_then HB.out (by omega) HBq.out) (Nat.le_succ _) _ _ _ _).drew⟩
      · have HW : Hid (writes op = false) := Lib.hid (by simp [writes, h9, h12])
        go_upto_region 4 with fail
        go_region
        go_wp2_with fail
        exact bodyPost_ret (v := .tuple #[u r, .bool false, .agg #[.bool gn, .bool gz, .bool gc, .bool gv]]) (by simp [results, Try.results26, go_sem, c0, c1, c2, c3, y0, y1, y2, y3]) rfl ⟨by rw [HW.out], by rw [HBe.out]; exact (below_set (below_then HB.out (by omega) HBq.out) (Nat.le_succ _) _ _ _ _).drew⟩
end Go.Proofs.Yteakgeplefjncaa
