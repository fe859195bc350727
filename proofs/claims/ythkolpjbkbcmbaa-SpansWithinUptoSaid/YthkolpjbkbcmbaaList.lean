/- The walks of Spans and formed. -/
import Derived.Test.YthkolpjbkbcmbaaSet
import Derived.Laws.CopyOwn
import Derived.IntWalk
set_option linter.unusedVariables false
set_option linter.unusedSimpArgs false
namespace Go.Proofs.Ythkolpjbkbcmbaa
open Go.RowKit

/-- 'copy' of n elements of three cells each into a row of just that size. -/
theorem run_copy3 (w : World) (ty : TypeId) (g n c : Nat) (A : Option Addr) (cur : Array Value) (t : TypeId) (cs : List Value) (hg : w.heap[g]? = some (.cells cur t (0, 0))) (hcur : cur.size = n * 3) (hcs : cs.length = n * 3)
    (hsrc : (A = none ∧ n = 0 ∧ c = 0) ∨ ∃ a, A = some a ∧ ∀ j v, cs[j]? = some v → w.cell? (a.add j) = some v) (h1 : ∀ v ∈ cs, v.oneCell' = true) :
    (Builtin.copy_ #[69, 69] ty #[.slice (some ⟨g, 0, none⟩) n n, .slice A n c]).run Try.prog w = .ok (goInt n) (w.setRow g cs.toArray) := by
  obtain ⟨i0, hi, hz0, hz1, hz2⟩ := info_parts info34
  rcases hsrc with ⟨rfl, rfl, rfl⟩ | ⟨a, rfl, hsrc⟩
  · have e : cs = [] := List.eq_nil_of_length_eq_zero (by simpa using hcs)
    have e2 : cur = #[] := Array.eq_empty_of_size_eq_zero (by simpa using hcur)
    subst e; subst e2
    rw [run_copy_nil (P := Try.prog) w 69 69 ty 34 _ 0 0 Try.underlying69 (by rw [hi]; rfl), setRow_self w g #[] t (0, 0) hg]
    rfl
  · have hl := run_loadCells_list (P := Try.prog) w a cs hsrc
    have hst := run_storeCells_at Try.prog g 0 t cs 0 cur w hg (by omega) h1
    have hd : cur.toList.drop cs.length = [] := List.drop_eq_nil_of_le (by simp; omega)
    simp only [Nat.zero_add, List.take_zero, List.nil_append, hd, List.append_nil] at hst
    have hmul : n * 3 = cs.length := hcs.symm
    simp [Builtin.copy_, run_underlying Try.underlying69, Builtin.lenOf, Builtin.firstCells, sizeOf, typeInfo, hi, hz1, hmul, hl, hst]

theorem flat_one (l : List S) : ∀ v ∈ flat l, v.oneCell' = true := by
  induction l with
  | nil => simp [flat]
  | cons s l ih => intro v hv; simp only [flat, List.mem_cons] at hv; rcases hv with rfl | rfl | rfl | hv <;> first | rfl | exact ih v hv

/-- 'copy(out, row)' of a row of spans, where out is just that long. -/
theorem copy_spans {W w0 : World} (ty : TypeId) (B base g n c : Nat) (A : Option Addr) (l : List S) (xs : List Value)
    (hn : l.length = n) (HO : W.ownsRow B 34 3 (.slice (some ⟨g, 0, none⟩) n n) n xs) (HS : W.ownsRow base 34 3 (.slice A n c) n (flat l)) (hb : Below B w0 W) :
    ∃ w', (Builtin.copy_ #[69, 69] ty #[.slice (some ⟨g, 0, none⟩) n n, .slice A n c]).run Try.prog W = .ok (.int .i64 n) w' ∧ RowAt w' B (.slice (some ⟨g, 0, none⟩) n n) l ∧ Below B w0 w' := by
  subst hn
  rcases HO.2 with ⟨h1, _⟩ | ⟨g', cap, cur, h1, hbg, hg, _, hcap, hcur, _⟩
  · cases h1
  · injection h1 with h1 _ h2
    injection h1 with h1
    injection h1 with h1 _ _
    subst h1
    subst h2
    have hsrc : (A = none ∧ l.length = 0 ∧ c = 0) ∨ ∃ a, A = some a ∧ ∀ j v, (flat l)[j]? = some v → W.cell? (a.add j) = some v := by
      rcases HS.2 with ⟨e, e2⟩ | ⟨g2, cap2, cur2, e, _⟩
      · injection e with e1 _ e3
        exact .inl ⟨e1, e2, e3⟩
      · injection e with e1 _ e3
        subst e1
        exact .inr ⟨_, rfl, World.ownsRow.cells HS (g := g2) rfl⟩
    have hrun := run_copy3 W ty g l.length c A cur 34 (flat l) hg hcur (flat_length l) hsrc (flat_one l)
    refine ⟨_, hrun, ⟨flat_length l, .inr ⟨g, l.length, (flat l).toArray, rfl, hbg, setRow_heap W g cur _ 34 _ hg, Nat.le_refl _, hcap, by simpa using flat_length l, ?_⟩⟩, ?_⟩
    · rw [← flat_length l]; simp
    · exact hb.trans ⟨rfl, rfl, rfl, by simp [World.setRow], fun k hk => by simp only [World.setRow, Array.getElem?_modify]; rw [if_neg (by omega)]⟩

set_option maxRecDepth 100000 in
set_option maxHeartbeats 400000 in
theorem spans_calls (w : World) (p : Nat) (L : List S) (hM : MapAt w 0 p L) (hn : L.length ≤ 1000000000) :
    Calls Try.prog 36 #[.pointer (some ⟨p, 0, none⟩)] w fun e w' => e = .returned (.slice (some ⟨w.heap.size, 0, none⟩) L.length L.length) ∧ RowAt w' w.heap.size (.slice (some ⟨w.heap.size, 0, none⟩) L.length L.length) L ∧ Below w.heap.size w w' := by
  obtain ⟨i0, hi0, hz0, hz1, hz2⟩ := info_parts info34
  obtain ⟨A, c, hp, hrow⟩ := hM
  have hc0 : w.cell? ⟨p, 0, none⟩ = some (.slice A L.length c) := by simp [cell_of_row w p 0 _ _ _ hp]
  have hpl : p < w.heap.size := (Array.getElem?_eq_some_iff.1 hp).1
  have HR : Hid (w.ownsRow 0 34 3 (.slice A L.length c) L.length (flat L)) := Lib.hid hrow
  clear hp hrow
  generalize hln : L.length = n at *
  have HN := Lib.hid hln
  clear hln
  go_enter Try.func36, Try.ntmps36
  go_wp2_with (at_make; (refine wpList_make_full _ rfl _ _ 69 rfl w.heap.size 34 i0 _ 3 Try.underlying69 hi0 hz0 hz1 .i64 .i64 _ _ n rfl rfl (by omega) (by omega) (by rw [hz2]; omega) (by unfold maxLen; omega) (Nat.le_refl _) ?_); intro w1 hown hg1; have hc1 := hg1.cell hc0 (by simp))
  have hB1 : Below w.heap.size w w1 := (Below.refl _ _).grown hg1 (Nat.le_refl _) (by simp)
  have HS := World.ownsRow.kept HR.out hg1 (by cases A <;> simp [Value.ownBlock])
  clear hg1 hc0
  obtain ⟨w2, hrun, hR2, hB2⟩ := copy_spans 3 w.heap.size 0 w.heap.size n c A L _ HN.out hown HS hB1
  clear hown HS hB1
  rw [hrun]
  clear hrun
  go_wp2_with fail
  go_ret
  exact ⟨rfl, hR2, hB2⟩

set_option maxRecDepth 100000 in
set_option maxHeartbeats 1000000 in
theorem formed_core (w : World) (base n c : Nat) (A : Option Addr) (L : List S) (hW : M.WF L) (hR : RowAt w base (.slice A n c) L) (hln : L.length = n) (hn : n ≤ 1000000000) :
    Calls Try.prog 37 #[.slice A n c] w fun e w' => e = .returned (.bool true) ∧ ∃ q, w' = w.drewN q := by
  have hcell := hR.cells
  have HN := Lib.hid hln
  clear hln hR
  go_enter Try.func37, Try.ntmps37
  go_wp2_with fail
  go_loopw [3] (fun i wr => ∃ k q : Nat, k ≤ n ∧ i = .int .i64 k ∧ wr = w.drewN q) (fun i _ => n - (intOf i).toNat)
  case atStart => exact ⟨0, 0, Nat.zero_le _, rfl, rfl⟩
  case round =>
    obtain ⟨j, q0, hj, rfl, rfl⟩ := hrel
    by_cases hlt : j < n
    · obtain ⟨s, hs⟩ : ∃ s, L[j]? = some s := ⟨_, List.getElem?_eq_getElem (by rw [HN.out]; exact hlt)⟩
      obtain ⟨g, rfl, hgl, t0, t1, t2⟩ := hcell j s hs
      have hok := hW.1 s (List.mem_of_getElem? hs)
      have b1 := hok.2.1
      have b2 := hok.1
      have b3 : s.hi ≤ 18446744073709551615 := hok.2.2
      cases j with
      | zero =>
        clear hcell hs hok hW HN
        have q : ((0 : Int) == 0) = true := rfl
        go_wp2_with fail
        go_quiet (fail)
        go_wp2_with fail
        go_roundw
        case rel => exact ⟨1, _, by omega, rfl, rfl⟩
        case measure => simp [intOf]; omega
      | succ m =>
        obtain ⟨u, hu⟩ : ∃ u, L[m]? = some u := ⟨_, List.getElem?_eq_getElem (by rw [HN.out]; omega)⟩
        obtain ⟨g', e', _, r0, r1, r2⟩ := hcell m u hu
        injection e' with e'
        injection e' with e' _ _
        subst e'
        have hRu := hW.lt hu hs (Nat.lt_succ_self m)
        have q1 := hRu.1
        have hcase : ((u.hi + 1 : Int) == s.lo) = false ∨ (((u.hi + 1 : Int) == s.lo) = true ∧ (u.v == s.v) = false) := by
          by_cases h : u.hi + 1 = s.lo
          · exact .inr ⟨by simpa using h, by simpa using hRu.2 h⟩
          · exact .inl (by simpa using h)
        have q2 : ((m : Int) + 1 == 0) = false := by simp; omega
        have q3 : (0 : Int) ≤ (m : Int) := by omega
        have q4 : (m : Int) < (n : Int) := by omega
        have q7 : (m : Int) + 1 < (n : Int) := by omega
        have q8 : (0 : Int) ≤ (m : Int) + 1 := by omega
        have q6 : IntKind.i64.wrap (m : Int) = (m : Int) := IntWalk.i64_in _ (by omega)
        have q5 : ¬ s.lo ≤ u.hi := by omega
        have b4 : 0 ≤ u.hi := by
          have h := hW.1 u (List.mem_of_getElem? hu)
          have h1 := h.1
          have h2 := h.2.1
          omega
        have q9 : decide (s.lo ≤ u.hi) = false := by simpa using q1
        have q10 : IntKind.u64.wrap (u.hi + 1) = u.hi + 1 := by rw [IntKind.wrap_u64]; omega
        clear hcell hs hok hW HN hu hRu q5
        rw [show ((m + 1 : Nat) : Int) = (m : Int) + 1 from by omega]
        rcases hcase with p1 | ⟨p1, p2⟩
        all_goals
          go_wp2_with fail
          go_quiet (fail)
          go_wp2_with fail
          go_quiet (fail)
          go_wp2_with fail
          go_roundw
          case rel => exact ⟨m + 1 + 1, _, by omega, by go_num, rfl⟩
          case measure => simp [intOf]; omega
    · obtain rfl : j = n := by omega
      go_wp2_with fail
      go_ret
      exact ⟨rfl, _, rfl⟩
end Go.Proofs.Ythkolpjbkbcmbaa
