/- The walks of the functions that read a map of ints: from, Next, Run, Get, Len. -/
import Derived.Test.YthkolpjbkbcmbaaBase
import Derived.LoopTactic
set_option linter.unusedVariables false
set_option linter.unusedSimpArgs false
namespace Go.Proofs.Ythkolpjbkbcmbaa
open Go.RowKit

set_option maxHeartbeats 400000 in
theorem from_core (w : World) (p : Nat) (A : Option Addr) (c n : Nat) (f : Nat → Int) (k : Int) (F : Nat) (hF : F ≤ n) (hn : n ≤ 1000000000)
    (hc0 : w.cell? ⟨p, 0, none⟩ = some (.slice A n c)) (hlo : ∀ i, i < F → f i < k) (hhi : ∀ i, F ≤ i → i < n → k ≤ f i)
    (hcell : ∀ i, i < n → ∃ g, A = some ⟨g, 0, none⟩ ∧ w.cell? ⟨g, i * 3 + 1, none⟩ = some (.int .u64 (f i))) :
    Calls Try.prog 53 #[.pointer (some ⟨p, 0, none⟩), .int .u64 k] w fun e w' => e = .returned (.int .i64 F) ∧ ∃ n, w' = w.drewN n := by
  go_enter Try.func53, Try.ntmps53
  go_wp2
  go_quiet (fail)
  go_wp2
  go_loop [5, 6] (fun lo hi => ∃ a b : Nat, a ≤ F ∧ F ≤ b ∧ b ≤ n ∧ lo = .int .i64 a ∧ hi = .int .i64 b) (fun lo hi => (intOf hi).toNat - (intOf lo).toNat)
  case atStart => exact ⟨0, n, Nat.zero_le _, hF, Nat.le_refl _, rfl, rfl⟩
  case round =>
    obtain ⟨a, b, ha, hb, hbn, rfl, rfl⟩ := hrel
    by_cases hlt : a < b
    · obtain ⟨g, rfl, hc1⟩ := hcell ((a + b) / 2) (by omega)
      have hl := hlo ((a + b) / 2)
      have hh := hhi ((a + b) / 2)
      clear hcell hlo hhi
      by_cases hk : f ((a + b) / 2) < k
      · go_wp2
        go_round
        case rel => exact ⟨(a + b) / 2 + 1, b, by rcases Nat.lt_or_ge ((a + b) / 2) F with h | h; omega; (have := hh h (by omega); omega), hb, hbn, by go_num, rfl⟩
        case measure => simp [intOf]; omega
      · go_wp2
        go_round
        case rel => exact ⟨a, (a + b) / 2, ha, by rcases Nat.lt_or_ge ((a + b) / 2) F with h | h; (have := hl h; omega); exact h, by omega, rfl, by go_num⟩
        case measure => simp [intOf]; omega
    · obtain rfl : a = F := by omega
      clear hcell hlo hhi
      go_wp2
      go_ret
      exact ⟨rfl, _, rfl⟩

theorem idx_lo {L : List S} {k : Int} {i : Nat} (h : i < idx L k) {s : S} (hs : L[i]? = some s) : s.hi < k := by
  obtain ⟨hi, rfl⟩ := List.getElem?_eq_some_iff.1 hs
  have := List.not_of_lt_findIdx h
  simpa using this
theorem idx_hi {L : List S} (hW : M.WF L) {k : Int} {i : Nat} (h : idx L k ≤ i) {s : S} (hs : L[i]? = some s) : k ≤ s.hi := by
  obtain ⟨hi, rfl⟩ := List.getElem?_eq_some_iff.1 hs
  have h1 : idx L k < L.length := Nat.lt_of_le_of_lt h hi
  have h2 : k ≤ (L[idx L k]'h1).hi := by
    have := List.findIdx_getElem (p := fun s : S => decide (k ≤ s.hi)) (w := h1)
    exact of_decide_eq_true this
  rcases Nat.eq_or_lt_of_le h with e | e
  · subst e; exact h2
  · have hR := (List.pairwise_iff_getElem.1 hW.2) _ _ h1 hi e
    have := hR.1
    have := (hW.1 _ (List.getElem_mem hi)).2.1
    omega

theorem from_calls (w : World) (base p : Nat) (L : List S) (k : Int) (hM : MapAt w base p L) (hW : M.WF L) (hn : L.length ≤ 1000000000) :
    Calls Try.prog 53 #[.pointer (some ⟨p, 0, none⟩), .int .u64 k] w fun e w' => e = .returned (.int .i64 (idx L k : Nat)) ∧ ∃ n, w' = w.drewN n := by
  obtain ⟨A, c, hc0, hpl, hrow⟩ := hM.read
  have key : ∀ i (h : i < L.length), L[i]? = some L[i] := fun i h => List.getElem?_eq_getElem h
  refine from_core w p A c L.length (fun i => ((L[i]?).getD zs).hi) k (idx L k) (idx_le L k) hn hc0 (fun i hi => ?_) (fun i h1 h2 => ?_) (fun i hi => ?_)
  · have hl : i < L.length := Nat.lt_of_lt_of_le hi (idx_le L k)
    show ((L[i]?).getD zs).hi < k
    rw [key i hl]; exact idx_lo hi (key i hl)
  · show k ≤ ((L[i]?).getD zs).hi
    rw [key i h2]; exact idx_hi hW h1 (key i h2)
  · obtain ⟨g, hA, _, _, _, h1, _⟩ := hrow i _ (key i hi)
    refine ⟨g, hA, ?_⟩
    show _ = some (Value.int .u64 ((L[i]?).getD zs).hi)
    rw [key i hi]; exact h1

set_option maxHeartbeats 400000 in
theorem next_some (w : World) (base p : Nat) (L : List S) (k : Int) (s : S) (hM : MapAt w base p L) (hW : M.WF L) (hn : L.length ≤ 1000000000) (hs : nxt L k = some s) :
    Calls Try.prog 18 #[.pointer (some ⟨p, 0, none⟩), .int .u64 k] w fun e w' => e = .returned (.tuple #[.agg #[.int .u64 s.lo, .int .u64 s.hi, .int .i64 s.v], .bool true]) ∧ Below w.heap.size w w' := by
  obtain ⟨A, c, hc0, hpl, hrow⟩ := hM.read
  obtain ⟨g, rfl, hgl, hlc, h0, h1, h2⟩ := hrow _ _ hs
  have hfrom := fun W (hb : MapAt W base p L) => from_calls W base p L k hb hW hn
  have hF : idx L k < L.length := nxt_some hs
  obtain ⟨lo, hi, v⟩ := s
  clear hrow hs
  generalize L.length = n at *
  generalize idx L k = F at *
  have hne : ((F : Int) == (n : Int)) = false := by simp; omega
  go_enter Try.func18, Try.ntmps18
  go_wp2_with fail
  refine (hfrom _ (hM.alloc _)).mono ?_
  rintro e w' ⟨rfl, nq, rfl⟩
  clear hfrom hW hM
  go_wp2_with fail
  refine bodyPost_ret (v := .tuple #[.agg #[.int .u64 lo, .int .u64 hi, .int .i64 v], .bool true]) (by simp [results, Try.results18, go_sem]) rfl ⟨rfl, ?_⟩
  exact (((below_drewN ((Below.refl _ _).alloc (Nat.le_refl _) _) nq).setCell (Nat.le_refl _) _).setCell (Nat.le_refl _) _).setCell (Nat.le_refl _) _

set_option maxHeartbeats 400000 in
theorem next_none (w : World) (base p : Nat) (L : List S) (k : Int) (hM : MapAt w base p L) (hW : M.WF L) (hn : L.length ≤ 1000000000) (hs : nxt L k = none) :
    Calls Try.prog 18 #[.pointer (some ⟨p, 0, none⟩), .int .u64 k] w fun e w' => e = .returned (.tuple #[.agg #[.int .u64 0, .int .u64 0, .int .i64 0], .bool false]) ∧ Below w.heap.size w w' := by
  obtain ⟨A, c, hc0, hpl, hrow⟩ := hM.read
  have hfrom := fun W (hb : MapAt W base p L) => from_calls W base p L k hb hW hn
  rw [nxt_none hs] at hfrom
  clear hrow hs
  generalize L.length = n at *
  have hne : ((n : Int) == (n : Int)) = true := by simp
  go_enter Try.func18, Try.ntmps18
  go_wp2_with fail
  refine (hfrom _ (hM.alloc _)).mono ?_
  rintro e w' ⟨rfl, nq, rfl⟩
  clear hfrom hW hM
  go_wp2_with fail
  refine bodyPost_ret (v := .tuple #[.agg #[.int .u64 0, .int .u64 0, .int .i64 0], .bool false]) (by simp [results, Try.results18, go_sem]) rfl ⟨rfl, ?_⟩
  exact (((below_drewN ((Below.refl _ _).alloc (Nat.le_refl _) _) nq).setCell (Nat.le_refl _) _).setCell (Nat.le_refl _) _).setCell (Nat.le_refl _) _

/-- Next, as one contract. -/
theorem next_calls (w : World) (base p : Nat) (L : List S) (k : Int) (hM : MapAt w base p L) (hW : M.WF L) (hn : L.length ≤ 1000000000) :
    Calls Try.prog 18 #[.pointer (some ⟨p, 0, none⟩), .int .u64 k] w fun e w' => e = .returned (.tuple #[.agg #[.int .u64 (sp (nxt L k)).lo, .int .u64 (sp (nxt L k)).hi, .int .i64 (sp (nxt L k)).v], .bool (nxt L k).isSome]) ∧ Below w.heap.size w w' := by
  cases h : nxt L k with
  | none => exact next_none w base p L k hM hW hn h
  | some s => exact next_some w base p L k s hM hW hn h

set_option maxHeartbeats 400000 in
theorem run_core (w : World) (p : Nat) (k lo hi v : Int) (b bb : Bool) (lo' hi' v' : Int)
    (hnext : ∀ W : World, Below w.heap.size w W → Calls Try.prog 18 #[.pointer (some ⟨p, 0, none⟩), .int .u64 k] W fun e w' => e = .returned (.tuple #[.agg #[.int .u64 lo, .int .u64 hi, .int .i64 v], .bool b]) ∧ Below W.heap.size W w')
    (h : (b = false ∧ bb = false ∧ lo' = 0 ∧ hi' = 0 ∧ v' = 0) ∨ (b = true ∧ k < lo ∧ bb = false ∧ lo' = 0 ∧ hi' = 0 ∧ v' = 0) ∨ (b = true ∧ ¬ k < lo ∧ bb = true ∧ lo' = lo ∧ hi' = hi ∧ v' = v)) :
    Calls Try.prog 17 #[.pointer (some ⟨p, 0, none⟩), .int .u64 k] w fun e w' => e = .returned (.tuple #[.agg #[.int .u64 lo', .int .u64 hi', .int .i64 v'], .bool bb]) ∧ Below w.heap.size w w' := by
  rcases h with ⟨rfl, rfl, rfl, rfl, rfl⟩ | ⟨rfl, hk, rfl, rfl, rfl, rfl⟩ | ⟨rfl, hk, rfl, rfl, rfl, rfl⟩
  all_goals
    go_enter Try.func17, Try.ntmps17
    go_wp2_with fail
    refine (hnext _ ((Below.refl _ _).alloc (Nat.le_refl _) _)).mono ?_
    rintro e w' ⟨rfl, hb⟩
    clear hnext
    obtain ⟨hz, hc, hf⟩ := newbox hb
    have c0 := hc 0 _ rfl
    have c1 := hc 1 _ rfl
    have c2 := hc 2 _ rfl
    have f0 := hf 0
    have f1 := hf 1
    have f2 := hf 2
    clear hc hf
    have hB := below_then ((Below.refl _ w).alloc (Nat.le_refl _) _) (by simp) hb
    clear hb
    go_wp2_with fail
  · refine bodyPost_ret (v := .tuple #[.agg #[.int .u64 0, .int .u64 0, .int .i64 0], .bool false]) (by simp [results, Try.results17, go_sem, c0, c1, c2, hz]) rfl ⟨rfl, ?_⟩
    exact (((hB.setCell (Nat.le_refl _) _).setCell (Nat.le_refl _) _).setCell (Nat.le_refl _) _).alloc (by simp; omega) _
  · refine bodyPost_ret (v := .tuple #[.agg #[.int .u64 0, .int .u64 0, .int .i64 0], .bool false]) (by simp [results, Try.results17, go_sem, c0, c1, c2, hz]) rfl ⟨rfl, ?_⟩
    exact (((hB.setCell (Nat.le_refl _) _).setCell (Nat.le_refl _) _).setCell (Nat.le_refl _) _).alloc (by simp; omega) _
  · refine bodyPost_ret (v := .tuple #[.agg #[.int .u64 lo', .int .u64 hi', .int .i64 v'], .bool true]) (by simp [results, Try.results17, go_sem, c0, c1, c2, hz]) rfl ⟨rfl, ?_⟩
    exact (((hB.setCell (Nat.le_refl _) _).setCell (Nat.le_refl _) _).setCell (Nat.le_refl _) _).alloc (by simp; omega) _

/-- Run, as one contract. -/
theorem run_calls (w : World) (base p : Nat) (L : List S) (k : Int) (hM : MapAt w base p L) (hW : M.WF L) (hn : L.length ≤ 1000000000) :
    Calls Try.prog 17 #[.pointer (some ⟨p, 0, none⟩), .int .u64 k] w fun e w' => e = .returned (.tuple #[.agg #[.int .u64 (sp (run L k)).lo, .int .u64 (sp (run L k)).hi, .int .i64 (sp (run L k)).v], .bool (run L k).isSome]) ∧ Below w.heap.size w w' := by
  refine run_core w p k _ _ _ _ _ _ _ _ (fun W hb => next_calls W base p L k (hM.below hb) hW hn) ?_
  unfold run
  cases h : nxt L k with
  | none => exact .inl ⟨rfl, rfl, rfl, rfl, rfl⟩
  | some s =>
    dsimp only [sp, Option.getD_some]
    by_cases hk : k < s.lo
    · rw [if_pos hk]; exact .inr (.inl ⟨rfl, hk, rfl, rfl, rfl, rfl⟩)
    · rw [if_neg hk]; exact .inr (.inr ⟨rfl, hk, rfl, rfl, rfl, rfl⟩)

set_option maxHeartbeats 400000 in
theorem get_core (w : World) (p : Nat) (k lo hi v : Int) (b : Bool)
    (hrun : Calls Try.prog 17 #[.pointer (some ⟨p, 0, none⟩), .int .u64 k] w fun e w' => e = .returned (.tuple #[.agg #[.int .u64 lo, .int .u64 hi, .int .i64 v], .bool b]) ∧ Below w.heap.size w w') :
    Calls Try.prog 16 #[.pointer (some ⟨p, 0, none⟩), .int .u64 k] w fun e w' => e = .returned (.tuple #[.int .i64 v, .bool b]) ∧ Below w.heap.size w w' := by
  go_enter Try.func16, Try.ntmps16
  go_wp2_with fail
  refine hrun.mono ?_
  rintro e w' ⟨rfl, hb⟩
  clear hrun
  have hz := hb.size
  go_wp2_with fail
  go_ret2
  exact ⟨rfl, hb.alloc hz _⟩

/-- Get, as one contract. -/
theorem get_calls (w : World) (base p : Nat) (L : List S) (k : Int) (hM : MapAt w base p L) (hW : M.WF L) (hn : L.length ≤ 1000000000) :
    Calls Try.prog 16 #[.pointer (some ⟨p, 0, none⟩), .int .u64 k] w fun e w' => e = .returned (.tuple #[.int .i64 (sp (run L k)).v, .bool (run L k).isSome]) ∧ Below w.heap.size w w' :=
  get_core w p k _ _ _ _ (run_calls w base p L k hM hW hn)

set_option maxHeartbeats 400000 in
theorem len_calls (w : World) (base p : Nat) (L : List S) (hM : MapAt w base p L) :
    Calls Try.prog 38 #[.pointer (some ⟨p, 0, none⟩)] w fun e w' => e = .returned (.int .i64 (L.length : Nat)) ∧ ∃ n, w' = w.drewN n := by
  obtain ⟨A, c, hc0, hpl, _⟩ := hM.read
  generalize L.length = n at *
  go_enter Try.func38, Try.ntmps38
  go_wp2
  go_ret
  exact ⟨rfl, 0, rfl⟩

end Go.Proofs.Ythkolpjbkbcmbaa
