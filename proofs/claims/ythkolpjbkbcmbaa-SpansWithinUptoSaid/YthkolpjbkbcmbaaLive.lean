/- The walk of live: the chapter's example. -/
import Derived.Test.YthkolpjbkbcmbaaOps
import Derived.Test.YthkolpjbkbcmbaaRead
import Derived.Laws.StructEq
set_option linter.unusedVariables false
set_option linter.unusedSimpArgs false
namespace Go.Proofs.Ythkolpjbkbcmbaa
open Go.RowKit

theorem no_calls (e : Int) (w : World) : Calls Try.prog 22 #[.int .i64 e] w fun r w' => r = .returned (.int .i64 e) ∧ w' = w := by
  go_enter Try.func22, Try.ntmps22
  go_wp2
  go_ret
  exact ⟨rfl, rfl⟩

theorem put1 : put [] 10 19 (some 7) = [⟨10, 19, 7⟩] := by rfl
theorem put2 : put [⟨10, 19, 7⟩] 30 39 (some 7) = [⟨10, 19, 7⟩, ⟨30, 39, 7⟩] := by rfl
theorem put3 : put [⟨10, 19, 7⟩, ⟨30, 39, 7⟩] 15 34 (some 8) = [⟨10, 14, 7⟩, ⟨15, 34, 8⟩, ⟨35, 39, 7⟩] := by rfl
theorem nxt3 : nxt [⟨10, 14, 7⟩, ⟨15, 34, 8⟩, ⟨35, 39, 7⟩] 20 = some ⟨15, 34, 8⟩ := by rfl
theorem run3 : run [⟨10, 14, 7⟩, ⟨15, 34, 8⟩, ⟨35, 39, 7⟩] 35 = some ⟨35, 39, 7⟩ := by rfl

set_option maxRecDepth 100000 in
set_option maxHeartbeats 1000000 in
theorem live_calls (w : World) : Calls Try.prog 14 #[] w fun e w' => e = .returned (.bool true) ∧ Below w.heap.size w w' := by
  have H1 := fun W (hM : MapAt W 0 w.heap.size []) => set_calls W w.heap.size [] 10 19 7 hM (by simp) M.WF.nil (by omega) (by rw [M.top_eq]; omega)
  rw [put1] at H1
  have w1 : M.WF [(⟨10, 19, 7⟩ : S)] := by rw [← put1]; exact put_wf _ M.WF.nil (by omega) (by rw [M.top_eq]; omega)
  have H2 := fun W (hM : MapAt W 0 w.heap.size [⟨10, 19, 7⟩]) => set_calls W w.heap.size [⟨10, 19, 7⟩] 30 39 7 hM (by simp) w1 (by omega) (by rw [M.top_eq]; omega)
  rw [put2] at H2
  have w2 : M.WF [(⟨10, 19, 7⟩ : S), ⟨30, 39, 7⟩] := by rw [← put2]; exact put_wf _ w1 (by omega) (by rw [M.top_eq]; omega)
  have H3 := fun W (hM : MapAt W 0 w.heap.size [⟨10, 19, 7⟩, ⟨30, 39, 7⟩]) => set_calls W w.heap.size [⟨10, 19, 7⟩, ⟨30, 39, 7⟩] 15 34 8 hM (by simp) w2 (by omega) (by rw [M.top_eq]; omega)
  rw [put3] at H3
  have w3 : M.WF [(⟨10, 14, 7⟩ : S), ⟨15, 34, 8⟩, ⟨35, 39, 7⟩] := by rw [← put3]; exact put_wf _ w2 (by omega) (by rw [M.top_eq]; omega)
  have H4 := fun W (hM : MapAt W 0 w.heap.size [⟨10, 14, 7⟩, ⟨15, 34, 8⟩, ⟨35, 39, 7⟩]) => next_calls W 0 w.heap.size _ 20 hM w3 (by simp)
  rw [nxt3] at H4
  have H5 := fun W (hM : MapAt W 0 w.heap.size [⟨10, 14, 7⟩, ⟨15, 34, 8⟩, ⟨35, 39, 7⟩]) => get_calls W 0 w.heap.size _ 35 hM w3 (by simp)
  rw [run3] at H5
  have H6 := fun W (hM : MapAt W 0 w.heap.size [⟨10, 14, 7⟩, ⟨15, 34, 8⟩, ⟨35, 39, 7⟩]) => len_calls W 0 w.heap.size _ hM
  clear w1 w2 w3
  rw [show eno 10 19 = 0 from rfl] at H1
  rw [show eno 30 39 = 0 from rfl] at H2
  rw [show eno 15 34 = 0 from rfl] at H3
  dsimp only [sp, Option.getD_some, Option.isSome_some] at H4 H5
  simp only [List.length_cons, List.length_nil, Nat.zero_add, Nat.reduceAdd, Int.cast_ofNat_Int] at H6
  have he34 : ∀ W : World, (binOp .eql 34 (.agg #[.int .u64 15, .int .u64 34, .int .i64 8]) (.agg #[.int .u64 15, .int .u64 34, .int .i64 8])).run Try.prog W = .ok (.bool true) W := fun W => by as_aux_lemma => kernel_rfl
  have G1 := fun W hM => Lib.hid (H1 W hM)
  have G2 := fun W hM => Lib.hid (H2 W hM)
  have G3 := fun W hM => Lib.hid (H3 W hM)
  have G4 := fun W hM => Lib.hid (H4 W hM)
  have G5 := fun W hM => Lib.hid (H5 W hM)
  have G6 := fun W hM => Lib.hid (H6 W hM)
  clear H1 H2 H3 H4 H5 H6
  go_enter Try.func14, Try.ntmps14
  go_wp2_with fail
  refine (new_calls _).mono ?_
  rintro e w1 ⟨rfl, hM, hB⟩
  go_wp2_with fail
  refine (G1 _ hM).out.mono ?_
  rintro e w2 ⟨rfl, hM2, hg⟩
  have hB2 := hB.grown hg hB.size (fun k hk => by injection hk with hk; omega)
  clear hM hg hB G1
  go_wp2_with fail
  refine (G2 _ hM2).out.mono ?_
  rintro e w3 ⟨rfl, hM3, hg⟩
  have hB3 := hB2.grown hg hB2.size (fun k hk => by injection hk with hk; omega)
  clear hM2 hg hB2 G2
  go_wp2_with fail
  refine (G3 _ hM3).out.mono ?_
  rintro e w4 ⟨rfl, hM4, hg⟩
  have hB4 := hB3.grown hg hB3.size (fun k hk => by injection hk with hk; omega)
  clear hM3 hg hB3 G3
  go_wp2_with fail
  refine (G4 _ hM4).out.mono ?_
  rintro e w5 ⟨rfl, hb⟩
  have hB5 := below_then hB4 hB4.size hb
  have hM5 := hM4.below hb
  clear hM4 hb hB4 G4
  go_wp2_with fail
  refine (G5 _ (hM5.alloc _)).out.mono ?_
  rintro e w6 ⟨rfl, hb⟩
  have hB6 := below_then (hB5.alloc hB5.size _) (by have := hB5.size; simp; omega) hb
  have hM6 := (hM5.alloc _).below hb
  obtain ⟨hz, hc, hf⟩ := newbox hb
  have c0 := hc 0 _ rfl
  have c1 := hc 1 _ rfl
  have c2 := hc 2 _ rfl
  clear hc hf hM5 hb hB5 G5
  go_wp2_with fail
  refine (no_calls _ _).mono ?_
  rintro e w' ⟨rfl, rfl⟩
  go_wp2_with fail
  refine (no_calls _ _).mono ?_
  rintro e w' ⟨rfl, rfl⟩
  go_wp2_with fail
  refine (no_calls _ _).mono ?_
  rintro e w' ⟨rfl, rfl⟩
  go_wp2_with fail
  refine (G6 _ hM6).out.mono ?_
  rintro e w' ⟨rfl, nq, rfl⟩
  go_wp2_with fail
  go_ret
  exact ⟨rfl, below_drewN hB6 _⟩
end Go.Proofs.Ythkolpjbkbcmbaa
