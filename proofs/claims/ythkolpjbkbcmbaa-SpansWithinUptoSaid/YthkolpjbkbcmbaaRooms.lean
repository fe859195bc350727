/- The walks of sameRooms and Clone. -/
import Derived.Test.YthkolpjbkbcmbaaRefDiff
import Derived.Test.YthkolpjbkbcmbaaList
import Derived.Test.YthkolpjbkbcmbaaPlays
set_option linter.unusedVariables false
set_option linter.unusedSimpArgs false
namespace Go.Proofs.Ythkolpjbkbcmbaa
open Go.RowKit

/-- '==' of two rooms. -/
theorem equal90 (a0 a1 b0 b1 : Int) (d : Nat) (W : World) : (Op.equalIn (d + 2) 90 (.agg #[.int .u64 a0, .int .u64 a1]) (.agg #[.int .u64 b0, .int .u64 b1])).run Try.prog W = .ok (a0 == b0 && a1 == b1) W := by
  have hf : Try.prog.fieldsOf 90 = #[{ name := "Lo", type := 27, offset := 0, embedded := false, tag := "", pkgPath := "", byteOffset := 0 }, { name := "Hi", type := 27, offset := 1, embedded := false, tag := "", pkgPath := "", byteOffset := 8 }] := by
    simp [Program.fieldsOf, Try.underlying90]
  rw [run_equalIn_struct (P := Try.prog) W (d + 1) 90 _ _ (by rw [hf]; exact Try.underlying90) (by kernel_rfl), hf]
  have p0 := part27 #[.int .u64 a0, .int .u64 a1] 0 (.int .u64 a0) rfl W
  have p1 := part27 #[.int .u64 a0, .int .u64 a1] 1 (.int .u64 a1) rfl W
  have r0 := part27 #[.int .u64 b0, .int .u64 b1] 0 (.int .u64 b0) rfl W
  have r1 := part27 #[.int .u64 b0, .int .u64 b1] 1 (.int .u64 b1) rfl W
  have e0 := eqU d a0 b0 W
  have e1 := eqU d a1 b1 W
  have n0 : ¬ ("Lo" = "_") := by decide
  have n1 : ¬ ("Hi" = "_") := by decide
  simp only [Op.eqFields, ne_eq, n0, n1, not_false_eq_true, if_true, Sem.run_bind, p0, p1, r0, r1, e0, e1, Result.andThen_ok, Sem.run_ite, Sem.run_pure]
  cases (a0 == b0) <;> cases (a1 == b1) <;> simp
theorem neq90_same (a b : Int) (W : World) : (binOp .neq 90 (.agg #[.int .u64 a, .int .u64 b]) (.agg #[.int .u64 a, .int .u64 b])).run Try.prog W = .ok (.bool false) W := by
  simp only [binOp]
  simp [Op.equal, Op.maxDepth, equal90 a b a b 9998]

set_option maxRecDepth 100000 in
set_option maxHeartbeats 1000000 in
theorem rooms_core (w : World) (b1 b2 n c c' : Nat) (A A' : Option Addr) (L : List Rm) (hR : RowM w b1 (.slice A n c) L) (hR' : RowM w b2 (.slice A' n c') L) (hln : L.length = n) (hn : n ≤ 1000000000) :
    Calls Try.prog 49 #[.slice A n c, .slice A' n c'] w fun e w' => e = .returned (.bool true) ∧ Below w.heap.size w w' := by
  obtain ⟨A1, c1, hv, hcell⟩ := hR.read
  injection hv with e1 e2 e3
  subst e1; subst e3
  obtain ⟨A2, c2, hv, hcell'⟩ := hR'.read
  injection hv with e1 e4 e3
  subst e1; subst e3
  clear e2 e4 hR hR'
  have HN := Lib.hid hln
  clear hln
  go_enter Try.func49, Try.ntmps49
  go_wp2_with fail
  go_loopw [5] (fun i wr => ∃ j : Nat, j ≤ n ∧ i = .int .i64 j ∧ Below w.heap.size w wr) (fun i _ => n - (intOf i).toNat)
  case atStart => exact ⟨0, Nat.zero_le _, rfl, Below.refl _ _⟩
  case round =>
    obtain ⟨j, hj, rfl, hB⟩ := hrel
    by_cases hjn : j < n
    · obtain ⟨s, hs⟩ : ∃ s, L[j]? = some s := ⟨_, List.getElem?_eq_getElem (by rw [HN.out]; exact hjn)⟩
      obtain ⟨g, rfl, _, hgl, t0, t1, _⟩ := hcell j s hs
      obtain ⟨g', rfl, _, hgl', r0, r1, _⟩ := hcell' j s hs
      have s0 := (hB.cell (p := ⟨g, j * 2, none⟩) hgl).trans t0
      have s1 := (hB.cell (p := ⟨g, j * 2 + 1, none⟩) hgl).trans t1
      have u0 := (hB.cell (p := ⟨g', j * 2, none⟩) hgl').trans r0
      have u1 := (hB.cell (p := ⟨g', j * 2 + 1, none⟩) hgl').trans r1
      have HE : ∀ W, (binOp .neq 90 (.agg #[.int .u64 s.lo, .int .u64 s.hi]) (.agg #[.int .u64 s.lo, .int .u64 s.hi])).run Try.prog W = .ok (.bool false) W := fun W => neq90_same _ _ W
      have q3 : (0 : Int) ≤ (j : Int) := by omega
      have q4 : (j : Int) < (n : Int) := by omega
      clear hcell hcell' hs t0 t1 r0 r1
      go_wp2_with fail
      go_still_tail 8, (by kernel_rfl)
      change wpList _ _ _ _ _ wr.drew
      go_wp2_with fail
      go_roundw
      case rel => exact ⟨j + 1, by omega, by go_num, hB.drew⟩
      case measure => simp [intOf]; omega
    · obtain rfl : j = n := by omega
      clear hcell hcell'
      go_wp2_with fail
      go_ret
      exact ⟨rfl, hB⟩

theorem rooms_calls (w : World) (b1 b2 : Nat) (v v' : Value) (L : List Rm) (hR : RowM w b1 v L) (hR' : RowM w b2 v' L) (hn : L.length ≤ 1000000000) :
    Calls Try.prog 49 #[v, v'] w fun e w' => e = .returned (.bool true) ∧ Below w.heap.size w w' := by
  obtain ⟨A, c, rfl, _⟩ := hR.read
  obtain ⟨A', c', rfl, _⟩ := hR'.read
  exact rooms_core w b1 b2 _ c c' A A' L hR hR' rfl hn

theorem clone_calls (w : World) (p : Nat) (L : List S) (hM : MapAt w 0 p L) (hn : L.length ≤ 1000000000) :
    Calls Try.prog 51 #[.pointer (some ⟨p, 0, none⟩)] w fun e w' => ∃ q, w.heap.size ≤ q ∧ e = .returned (.pointer (some ⟨q, 0, none⟩)) ∧ MapAt w' 0 q L ∧ Below w.heap.size w w' := by
  have HS := Lib.hid (spans_any w p L hM hn)
  clear hM
  go_enter Try.func51, Try.ntmps51
  go_wp2_with fail
  refine HS.out.mono ?_
  rintro e w1 ⟨A, b, rfl, hR, hb⟩
  have HR := Lib.hid hR
  have HB := Lib.hid hb
  clear hR hb HS
  go_wp2_with fail
  go_ret
  refine ⟨w1.heap.size, HB.out.size, rfl, ⟨A, L.length, heap_alloc_new w1 _, ?_⟩, HB.out.alloc HB.out.size _⟩
  have h := (HR.out.alloc (.cells #[.slice A L.length L.length] 98))
  exact ⟨h.1, h.2.imp id fun ⟨g, cap, cur, e1, e2, e3⟩ => ⟨g, cap, cur, e1, Nat.zero_le _, e3⟩⟩

end Go.Proofs.Ythkolpjbkbcmbaa
