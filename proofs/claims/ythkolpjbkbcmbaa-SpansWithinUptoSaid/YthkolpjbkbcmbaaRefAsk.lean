/- The walks of the reference's Run and Next, and of like and alike. -/
import Derived.Test.YthkolpjbkbcmbaaRefSpans
import Derived.Test.YthkolpjbkbcmbaaLook
set_option linter.unusedVariables false
set_option linter.unusedSimpArgs false
namespace Go.Proofs.Ythkolpjbkbcmbaa
open Go.RowKit

/-- The spans that the program keeps are those that the reference would tell. -/
def Same (L : List S) (D : List M.Dn) : Prop := M.WF L ∧ ∀ k u, M.Has L k u ↔ M.fv D k = some u

theorem rspans_same (w : World) (B p : Nat) (D : List M.Dn) (L : List S) (hD : RefAt w B p D) (hn : D.length ≤ 100000000) (hB0 : B ≤ w.heap.size) (hS : Same L D) :
    Calls Try.prog 31 #[.pointer (some ⟨p, 0, none⟩)] w fun e w' => ∃ A c, e = .returned (.slice A L.length c) ∧ RowR w' w.heap.size (.slice A L.length c) L ∧ L.length ≤ 2 * D.length + 1 ∧ Below w.heap.size w w' := by
  refine (rspans_calls w B p D hD hn hB0).mono ?_
  rintro e w' ⟨v, l, rfl, hR, hW, hH, hl, hb⟩
  obtain rfl : l = L := M.canon hW hS.1 fun k u => (hH k u).trans (hS.2 k u).symm
  obtain ⟨A, c, rfl, _⟩ := hR.read
  exact ⟨A, c, rfl, hR, hl, hb⟩

theorem WF_in {L : List S} (hW : M.WF L) {i j : Nat} {s t : S} (hi : L[i]? = some s) (hj : L[j]? = some t) {k : Int} (h1 : s.lo ≤ k) (h2 : k ≤ s.hi) (h3 : t.lo ≤ k) (h4 : k ≤ t.hi) : s = t := by
  rcases Nat.lt_trichotomy i j with h | h | h
  · have := (hW.lt hi hj h).1; omega
  · subst h; rw [hi] at hj; injection hj
  · have := (hW.lt hj hi h).1; omega

theorem run_at {L : List S} (hW : M.WF L) {i : Nat} {s : S} (hi : L[i]? = some s) {k : Int} (h1 : s.lo ≤ k) (h2 : k ≤ s.hi) : run L k = some s := by
  have hh : M.Has L k s.v := ⟨s, List.mem_of_getElem? hi, h1, h2, rfl⟩
  rcases key_cases hW k with ⟨t, a, b, c, d, e⟩ | ⟨a, _⟩ | ⟨t, a, _⟩
  · have ht : t ∈ L := (nxt_some_hi hW b).2
    obtain ⟨j, hj⟩ := List.getElem?_of_mem ht
    rw [c, WF_in hW hi hj h1 h2 d e]
  · exact absurd hh (a _)
  · exact absurd hh (a _)
theorem run_none {L : List S} (hW : M.WF L) {k : Int} (h : ∀ s ∈ L, k < s.lo ∨ s.hi < k) : run L k = none := by
  rcases key_cases hW k with ⟨t, a, b, c, d, e⟩ | ⟨_, _, c⟩ | ⟨t, _, _, c, _⟩
  · have := h t (nxt_some_hi hW b).2; omega
  · exact c
  · exact c
theorem nxt_at {L : List S} (hW : M.WF L) {i : Nat} {s : S} (hi : L[i]? = some s) {k : Int} (h1 : k ≤ s.hi) (h2 : ∀ t ∈ L.take i, t.hi < k) : nxt L k = some s := by
  have e : idx L k = i := by
    rcases Nat.lt_trichotomy (idx L k) i with h | h | h
    · obtain ⟨t, ht⟩ : ∃ t, L[idx L k]? = some t := ⟨_, List.getElem?_eq_getElem (by have := (List.getElem?_eq_some_iff.1 hi).1; omega)⟩
      have := idx_hi hW (Nat.le_refl _) ht
      have := h2 t (List.mem_of_getElem? (i := idx L k) (by rw [List.getElem?_take]; rw [if_pos h]; exact ht))
      omega
    · exact h
    · have := idx_lo h hi; omega
  unfold nxt
  rw [e]
  exact hi
theorem nxt_no {L : List S} (hW : M.WF L) {k : Int} (h : ∀ s ∈ L, s.hi < k) : nxt L k = none := by
  cases e : nxt L k with
  | none => rfl
  | some s => obtain ⟨a, b⟩ := nxt_some_hi hW e; have := h s b; omega

theorem take_mem {α : Type} {l : List α} {j : Nat} {x y : α} (hx : l[j]? = some x) (hy : y ∈ l.take (j + 1)) : y ∈ l.take j ∨ y = x := by
  rw [M.take_snoc hx] at hy
  rcases List.mem_append.1 hy with h | h
  · exact .inl h
  · exact .inr (List.mem_singleton.1 h)

set_option maxRecDepth 100000 in
set_option maxHeartbeats 1000000 in
theorem rrun_calls (w : World) (B p : Nat) (D : List M.Dn) (L : List S) (k : Int) (hD : RefAt w B p D) (hn : D.length ≤ 100000000) (hB0 : B ≤ w.heap.size) (hS : Same L D) :
    Calls Try.prog 55 #[.pointer (some ⟨p, 0, none⟩), .int .u64 k] w fun e w' => e = .returned (.tuple #[.agg #[.int .u64 (sp (run L k)).lo, .int .u64 (sp (run L k)).hi, .int .i64 (sp (run L k)).v], .bool (run L k).isSome]) ∧ Below w.heap.size w w' := by
  have HS := Lib.hid (rspans_same (w.alloc (.cells #[.int .u64 0, .int .u64 0, .int .i64 0] 66)) B p D L (hD.below ((Below.refl _ _).alloc (Nat.le_refl _) _)) hn (by simp; omega) hS)
  have HW := Lib.hid hS.1
  clear hD hS
  go_enter Try.func55, Try.ntmps55
  go_wp2_with fail
  refine HS.out.mono ?_
  rintro e w1 ⟨A, c, rfl, hR, hll, hb⟩
  obtain ⟨hz, hx, hf⟩ := newbox hb
  have f0 := hf 0
  have f1 := hf 1
  have f2 := hf 2
  have d0 := hx 0 _ rfl
  have d1 := hx 1 _ rfl
  have d2 := hx 2 _ rfl
  have hB1 : Below w.heap.size w w1 := below_then ((Below.refl _ _).alloc (Nat.le_refl _) _) (by simp) hb
  obtain ⟨A', c', hv, hcell⟩ := hR.read
  injection hv with e1 e2 e3
  subst e1; subst e3
  clear e2 hR hb hx hf HS
  generalize hln : L.length = n at *
  have HN := Lib.hid hln
  clear hln
  go_wp2_with fail
  go_loopw [7] (fun i wr => ∃ j : Nat, j ≤ n ∧ i = .int .i64 j ∧ wr = w1 ∧ Hid (∀ s ∈ L.take j, k < s.lo ∨ s.hi < k)) (fun i _ => n - (intOf i).toNat)
  case atStart => exact ⟨0, Nat.zero_le _, rfl, rfl, by intro s hs; simp at hs⟩
  case round =>
    obtain ⟨j, hj, rfl, rfl, HL⟩ := hrel
    by_cases hjn : j < n
    · obtain ⟨s, hs⟩ : ∃ s, L[j]? = some s := ⟨_, List.getElem?_eq_getElem (by rw [HN.out]; exact hjn)⟩
      obtain ⟨g, rfl, _, hgl, t0, t1, t2, _⟩ := hcell j s hs
      have HI := Lib.hid hs
      clear hcell hs
      by_cases h1 : s.lo ≤ k
      · by_cases h2 : k ≤ s.hi
        · have HF := Lib.hid (run_at HW.out HI.out h1 h2)
          go_wp2_with fail
          refine bodyPost_ret (v := .tuple #[.agg #[.int .u64 s.lo, .int .u64 s.hi, .int .i64 s.v], .bool true]) (by simp [results, Try.results55, go_sem, d0, d1, d2]) rfl ⟨by rw [HF.out]; rfl, ?_⟩
          exact ((hB1.setCell (Nat.le_refl _) _).setCell (Nat.le_refl _) _).setCell (Nat.le_refl _) _
        · have HL2 := Lib.hid (show ∀ t ∈ L.take (j + 1), k < t.lo ∨ t.hi < k by
            intro t ht
            rcases take_mem HI.out ht with h | h
            · exact HL.out t h
            · rw [h]; exact .inr (by omega))
          go_wp2_with fail
          go_roundw
          case rel => exact ⟨j + 1, by omega, by go_num, trivial, HL2.out⟩
          case measure => simp [intOf]; omega
      · have HL2 := Lib.hid (show ∀ t ∈ L.take (j + 1), k < t.lo ∨ t.hi < k by
            intro t ht
            rcases take_mem HI.out ht with h | h
            · exact HL.out t h
            · rw [h]; exact .inl (by omega))
        go_wp2_with fail
        go_roundw
        case rel => exact ⟨j + 1, by omega, by go_num, trivial, HL2.out⟩
        case measure => simp [intOf]; omega
    · obtain rfl : j = n := by omega
      have HF := Lib.hid (run_none HW.out (k := k) (by have h := HL.out; rw [List.take_of_length_le (by rw [HN.out]; exact Nat.le_refl _)] at h; exact h))
      clear hcell
      go_wp2_with fail
      refine bodyPost_ret (v := .tuple #[.agg #[.int .u64 0, .int .u64 0, .int .i64 0], .bool false]) (by simp [results, Try.results55, go_sem, d0, d1, d2]) rfl ⟨by rw [HF.out]; rfl, ?_⟩
      exact ((hB1.setCell (Nat.le_refl _) _).setCell (Nat.le_refl _) _).setCell (Nat.le_refl _) _

set_option maxRecDepth 100000 in
set_option maxHeartbeats 1000000 in
theorem rnext_calls (w : World) (B p : Nat) (D : List M.Dn) (L : List S) (k : Int) (hD : RefAt w B p D) (hn : D.length ≤ 100000000) (hB0 : B ≤ w.heap.size) (hS : Same L D) :
    Calls Try.prog 56 #[.pointer (some ⟨p, 0, none⟩), .int .u64 k] w fun e w' => e = .returned (.tuple #[.agg #[.int .u64 (sp (nxt L k)).lo, .int .u64 (sp (nxt L k)).hi, .int .i64 (sp (nxt L k)).v], .bool (nxt L k).isSome]) ∧ Below w.heap.size w w' := by
  have HS := Lib.hid (rspans_same (w.alloc (.cells #[.int .u64 0, .int .u64 0, .int .i64 0] 66)) B p D L (hD.below ((Below.refl _ _).alloc (Nat.le_refl _) _)) hn (by simp; omega) hS)
  have HW := Lib.hid hS.1
  clear hD hS
  go_enter Try.func56, Try.ntmps56
  go_wp2_with fail
  refine HS.out.mono ?_
  rintro e w1 ⟨A, c, rfl, hR, hll, hb⟩
  obtain ⟨hz, hx, hf⟩ := newbox hb
  have f0 := hf 0
  have f1 := hf 1
  have f2 := hf 2
  have d0 := hx 0 _ rfl
  have d1 := hx 1 _ rfl
  have d2 := hx 2 _ rfl
  have hB1 : Below w.heap.size w w1 := below_then ((Below.refl _ _).alloc (Nat.le_refl _) _) (by simp) hb
  obtain ⟨A', c', hv, hcell⟩ := hR.read
  injection hv with e1 e2 e3
  subst e1; subst e3
  clear e2 hR hb hx hf HS
  generalize hln : L.length = n at *
  have HN := Lib.hid hln
  clear hln
  go_wp2_with fail
  go_loopw [7] (fun i wr => ∃ j : Nat, j ≤ n ∧ i = .int .i64 j ∧ wr = w1 ∧ Hid (∀ s ∈ L.take j, s.hi < k)) (fun i _ => n - (intOf i).toNat)
  case atStart => exact ⟨0, Nat.zero_le _, rfl, rfl, by intro s hs; simp at hs⟩
  case round =>
    obtain ⟨j, hj, rfl, rfl, HL⟩ := hrel
    by_cases hjn : j < n
    · obtain ⟨s, hs⟩ : ∃ s, L[j]? = some s := ⟨_, List.getElem?_eq_getElem (by rw [HN.out]; exact hjn)⟩
      obtain ⟨g, rfl, _, hgl, t0, t1, t2, _⟩ := hcell j s hs
      have HI := Lib.hid hs
      clear hcell hs
      by_cases h2 : k ≤ s.hi
      · have HF := Lib.hid (nxt_at HW.out HI.out h2 HL.out)
        go_wp2_with fail
        refine bodyPost_ret (v := .tuple #[.agg #[.int .u64 s.lo, .int .u64 s.hi, .int .i64 s.v], .bool true]) (by simp [results, Try.results56, go_sem, d0, d1, d2]) rfl ⟨by rw [HF.out]; rfl, ?_⟩
        exact ((hB1.setCell (Nat.le_refl _) _).setCell (Nat.le_refl _) _).setCell (Nat.le_refl _) _
      · have HL2 := Lib.hid (show ∀ t ∈ L.take (j + 1), t.hi < k by
          intro t ht
          rcases take_mem HI.out ht with h | h
          · exact HL.out t h
          · rw [h]; omega)
        go_wp2_with fail
        go_roundw
        case rel => exact ⟨j + 1, by omega, by go_num, trivial, HL2.out⟩
        case measure => simp [intOf]; omega
    · obtain rfl : j = n := by omega
      have HF := Lib.hid (nxt_no HW.out (k := k) (by have h := HL.out; rw [List.take_of_length_le (by rw [HN.out]; exact Nat.le_refl _)] at h; exact h))
      clear hcell
      go_wp2_with fail
      refine bodyPost_ret (v := .tuple #[.agg #[.int .u64 0, .int .u64 0, .int .i64 0], .bool false]) (by simp [results, Try.results56, go_sem, d0, d1, d2]) rfl ⟨by rw [HF.out]; rfl, ?_⟩
      exact ((hB1.setCell (Nat.le_refl _) _).setCell (Nat.le_refl _) _).setCell (Nat.le_refl _) _


set_option maxHeartbeats 1000000 in
theorem like_calls (w : World) (a0 a1 a2 b0 b1 b2 : Int) :
    Calls Try.prog 43 #[.agg #[.int .u64 a0, .int .u64 a1, .int .i64 a2], .agg #[.int .u64 b0, .int .u64 b1, .int .i64 b2]] w fun e w' => e = .returned (.bool (a0 == b0 && (a1 == b1 && a2 == b2))) ∧ Below w.heap.size w w' := by
  have hB := ((Below.refl w.heap.size w).alloc (Nat.le_refl _) (.cells #[.int .u64 a0, .int .u64 a1, .int .i64 a2] 34)).alloc (by simp) (.cells #[.int .u64 b0, .int .u64 b1, .int .i64 b2] 66)
  have HB := Lib.hid hB
  clear hB
  by_cases h0 : a0 = b0
  · have q0 : (a0 == b0) = true := by simpa using h0
    by_cases h1 : a1 = b1
    · have q1 : (a1 == b1) = true := by simpa using h1
      rw [q0, q1]
      clear h0 h1
      go_enter Try.func43, Try.ntmps43
      go_wp2_with fail
      go_ret
      exact ⟨by simp, HB.out⟩
    · have q1 : (a1 == b1) = false := by simpa using h1
      rw [q0, q1]
      clear h0 h1
      go_enter Try.func43, Try.ntmps43
      go_wp2_with fail
      go_ret
      exact ⟨rfl, HB.out⟩
  · have q0 : (a0 == b0) = false := by simpa using h0
    rw [q0]
    clear h0
    go_enter Try.func43, Try.ntmps43
    go_wp2_with fail
    go_ret
    exact ⟨rfl, HB.out⟩

set_option maxRecDepth 100000 in
set_option maxHeartbeats 1000000 in
theorem alike_calls (w : World) (b1 b2 n c c' : Nat) (A A' : Option Addr) (L : List S) (hR : RowAt w b1 (.slice A n c) L) (hR' : RowR w b2 (.slice A' n c') L) (hln : L.length = n) (hn : n ≤ 1000000000) :
    Calls Try.prog 40 #[.slice A n c, .slice A' n c'] w fun e w' => e = .returned (.bool true) ∧ Below w.heap.size w w' := by
  obtain ⟨A1, c1, hv, _, _, hcell⟩ := hR.read
  injection hv with e1 e2 e3
  subst e1; subst e3
  obtain ⟨A2, c2, hv, hcell'⟩ := hR'.read
  injection hv with e1 e4 e3
  subst e1; subst e3
  clear e2 e4 hR hR'
  have HN := Lib.hid hln
  clear hln
  go_enter Try.func40, Try.ntmps40
  go_wp2_with fail
  go_loopw [5] (fun i wr => ∃ j : Nat, j ≤ n ∧ i = .int .i64 j ∧ Below w.heap.size w wr) (fun i _ => n - (intOf i).toNat)
  case atStart => exact ⟨0, Nat.zero_le _, rfl, Below.refl _ _⟩
  case round =>
    obtain ⟨j, hj, rfl, hB⟩ := hrel
    by_cases hjn : j < n
    · obtain ⟨s, hs⟩ : ∃ s, L[j]? = some s := ⟨_, List.getElem?_eq_getElem (by rw [HN.out]; exact hjn)⟩
      obtain ⟨g, rfl, _, hgl, t0, t1, t2, _⟩ := hcell j s hs
      obtain ⟨g', rfl, _, hgl', r0, r1, r2, _⟩ := hcell' j s hs
      have s0 := (hB.cell (p := ⟨g, j * 3, none⟩) hgl).trans t0
      have s1 := (hB.cell (p := ⟨g, j * 3 + 1, none⟩) hgl).trans t1
      have s2 := (hB.cell (p := ⟨g, j * 3 + 2, none⟩) hgl).trans t2
      have u0 := (hB.cell (p := ⟨g', j * 3, none⟩) hgl').trans r0
      have u1 := (hB.cell (p := ⟨g', j * 3 + 1, none⟩) hgl').trans r1
      have u2 := (hB.cell (p := ⟨g', j * 3 + 2, none⟩) hgl').trans r2
      have hBz := hB.size
      have HL := fun W => Lib.hid (like_calls W s.lo s.hi s.v s.lo s.hi s.v)
      simp only [beq_self_eq_true, Bool.and_self] at HL
      clear hcell hcell' hs t0 t1 t2 r0 r1 r2
      go_wp2_with fail
      go_still_tail 8, (by kernel_rfl)
      change wpList _ _ _ _ _ wr.drew
      go_wp2_with fail
      refine (HL _).out.mono ?_
      rintro e w' ⟨rfl, hb⟩
      have hB2 := below_then hB.drew hBz hb
      clear HL hb
      go_wp2_with fail
      go_roundw
      case rel => exact ⟨j + 1, by omega, by go_num, hB2⟩
      case measure => simp [intOf]; omega
    · obtain rfl : j = n := by omega
      clear hcell hcell'
      go_wp2_with fail
      go_ret
      exact ⟨rfl, hB⟩

end Go.Proofs.Ythkolpjbkbcmbaa
