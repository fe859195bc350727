/- The walks of the small functions: turns, sums, marks, the logical operations. -/
import Derived.Test.YteakgeplefjncaaProg
import Derived.Test.YteakgeplefjncaaNum
import Derived.Below
import Derived.Deep.Draws
import Derived.OwnWalk
import Derived.Laws.OwnMore
import Derived.WalkKit
import Derived.KernelRfl
import Derived.Deep.QuietTactic
import Derived.BigQuiet
import Derived.Lib.Hide
set_option linter.unusedVariables false
set_option linter.unusedSimpArgs false
namespace Go.Proofs.Yteakgeplefjncaa
open Go.RowKit

abbrev u (x : Int) : Value := .int .u32 x
theorem below_drewN {B : Nat} {a w : World} (h : Below B a w) (n : Nat) : Below B a (w.drewN n) := ⟨h.os, h.tape, h.output, h.size, h.block⟩
theorem below_then {B : Nat} {w w1 w2 : World} (h : Below B w w1) (hB : B ≤ w1.heap.size) (k : Below w1.heap.size w1 w2) : Below B w w2 :=
  h.trans ⟨k.os, k.tape, k.output, k.size, fun i hi => k.block i (Nat.lt_of_lt_of_le hi hB)⟩
theorem newbox {w w' : World} {cs : Array Value} {t : TypeId} (hb : Below (w.alloc (.cells cs t)).heap.size (w.alloc (.cells cs t)) w') :
    w.heap.size < w'.heap.size ∧ (∀ i u, cs[i]? = some u → w'.cell? ⟨w.heap.size, i, none⟩ = some u) ∧ (∀ i, w'.frozen? ⟨w.heap.size, i, none⟩ = false) := by
  have hs : (w.alloc (.cells cs t)).heap.size = w.heap.size + 1 := by simp
  have h1 : w'.heap[w.heap.size]? = some (.cells cs t (0, 0)) := (hb.block w.heap.size (by omega)).trans (heap_alloc_new w _)
  refine ⟨by have := hb.size; omega, fun i u hu => (cell_of_row w' _ i cs t _ h1).trans hu, fun i => by simp [World.frozen?, h1]⟩

theorem rotl_calls (w : World) (x n : Int) (hx : W32 x) :
    Calls Try.prog 43 #[u x, .int .i64 n] w fun e w' => e = .returned (u (rot x (32 - (n % 32).toNat))) ∧ w' = w := by
  have h := and31 n
  obtain ⟨s, hs⟩ : ∃ s, n % 32 = s := ⟨_, rfl⟩
  rw [hs] at h ⊢
  have s0 : 0 ≤ s := by omega
  have s1 : s < 32 := by omega
  have s2 : ¬ s < 0 := by omega
  have h2 : IntKind.u64.wrap (32 - s) = 32 - s := by rw [wrap_u64]; omega
  have s3 : ¬ (32 - s) < 0 := by omega
  have s4 : 0 ≤ 32 - s := by omega
  have HJ := Lib.hid (rot_join hx s0 s1)
  clear hs
  go_enter Try.func43, Try.ntmps43
  go_wp2_with fail
  go_ret
  refine ⟨?_, rfl⟩
  show Ending.returned (Value.int IntKind.u32 (bits BinOp.or IntKind.u32 (x * 2 ^ s.toNat % 4294967296) (x / 2 ^ (32 - s).toNat))) = _
  rw [HJ.out]

theorem add32_calls (w : World) (x y c : Int) (hx : W32 x) (hy : W32 y) (hc : W32 c) :
    Calls Try.prog 45 #[u x, u y, u c] w fun e w' => e = .returned (.tuple #[u ((x + y + c) % 4294967296), u ((x + y + c) / 4294967296)]) ∧ w' = w := by
  obtain ⟨x0, x1⟩ := hx
  obtain ⟨y0, y1⟩ := hy
  obtain ⟨c0, c1⟩ := hc
  have e1 : IntKind.u64.wrap x = x := by rw [wrap_u64]; omega
  have e2 : IntKind.u64.wrap y = y := by rw [wrap_u64]; omega
  have e3 : IntKind.u64.wrap c = c := by rw [wrap_u64]; omega
  have e4 : IntKind.u64.wrap (x + y) = x + y := by rw [wrap_u64]; omega
  have e5 : IntKind.u64.wrap (x + y + c) = x + y + c := by rw [wrap_u64]; omega
  have e6 : (x + y + c) / 4294967296 % 4294967296 = (x + y + c) / 4294967296 := by omega
  go_enter Try.func45, Try.ntmps45
  go_wp2_with fail
  exact bodyPost_ret (v := .tuple #[u ((x + y + c) % 4294967296), u ((x + y + c) / 4294967296)]) (by simp [results, Try.results45, go_sem, NOT]) rfl ⟨rfl, rfl⟩

theorem marks_calls (w : World) (x : Int) (c v : Bool) (hx : W32 x) :
    Calls Try.prog 46 #[u x, .bool c, .bool v] w fun e w' => e = .returned (marks x c v).val ∧ Below w.heap.size w w' := by
  have ht := top_eq hx
  go_enter Try.func46, Try.ntmps46
  go_wp2_with fail
  refine bodyPost_ret (v := (marks x c v).val) (by simp [results, Try.results46, go_sem, marks, F.val, ht]) rfl ⟨rfl, ?_⟩
  exact (Below.refl _ _).alloc (Nat.le_refl _) _

theorem signed_calls (w : World) (x : Int) (hx : W32 x) :
    Calls Try.prog 47 #[u x] w fun e w' => e = .returned (.int .i64 (sgn x)) ∧ w' = w := by
  obtain ⟨x0, x1⟩ := hx
  have e1 : wrap64 x = x := by unfold wrap64; omega
  have e2 : wrap64 (x - 4294967296) = x - 4294967296 := by unfold wrap64; omega
  unfold sgn
  by_cases h : 2147483648 ≤ x
  · rw [if_pos h]
    go_enter Try.func47, Try.ntmps47
    go_wp2_with fail
    go_ret
    exact ⟨rfl, rfl⟩
  · rw [if_neg h]
    go_enter Try.func47, Try.ntmps47
    go_wp2_with fail
    go_ret
    exact ⟨rfl, rfl⟩

theorem bit_calls (w : World) (x : Int) (i : Nat) (hx : W32 x) (hi : i < 32) :
    Calls Try.prog 42 #[u x, .int .i64 i] w fun e w' => e = .returned (.bool (x / 2 ^ i % 2 == 1)) ∧ w' = w := by
  obtain ⟨x0, x1⟩ := hx
  have p := pow_pos' i
  have a0 : 0 ≤ x / 2 ^ i := Int.ediv_nonneg x0 (by omega)
  have a1 : x / 2 ^ i ≤ x := Int.ediv_le_self _ x0
  have e1 : IntKind.u64.wrap (i : Int) = i := by rw [wrap_u64]; omega
  have e2 := and_u32_1 (x := x / 2 ^ i) ⟨a0, by omega⟩
  have e3 : min i 32 = i := by omega
  have i0 : (0 : Int) ≤ i := by omega
  have i1 : ¬ (i : Int) < 0 := by omega
  go_enter Try.func42, Try.ntmps42
  go_wp2_with fail
  go_ret
  exact ⟨rfl, rfl⟩

theorem unsig : IntKind.u32.signed = false := rfl
theorem and_calls (w : World) (x y : Int) : Calls Try.prog 54 #[u x, u y] w fun e w' => e = .returned (u (bits .and .u32 x y)) ∧ w' = w := by
  go_enter Try.func54, Try.ntmps54
  go_wp2_with fail
  go_ret
  exact ⟨rfl, rfl⟩
theorem eor_calls (w : World) (x y : Int) : Calls Try.prog 55 #[u x, u y] w fun e w' => e = .returned (u (bits .xor .u32 x y)) ∧ w' = w := by
  go_enter Try.func55, Try.ntmps55
  go_wp2_with fail
  go_ret
  exact ⟨rfl, rfl⟩
theorem orr_calls (w : World) (x y : Int) : Calls Try.prog 63 #[u x, u y] w fun e w' => e = .returned (u (bits .or .u32 x y)) ∧ w' = w := by
  go_enter Try.func63, Try.ntmps63
  go_wp2_with fail
  go_ret
  exact ⟨rfl, rfl⟩
theorem mov_calls (w : World) (x y : Int) : Calls Try.prog 64 #[u x, u y] w fun e w' => e = .returned (u y) ∧ w' = w := by
  go_enter Try.func64, Try.ntmps64
  go_wp2_with fail
  go_ret
  exact ⟨rfl, rfl⟩
theorem bic_calls (w : World) (x y : Int) : Calls Try.prog 65 #[u x, u y] w fun e w' => e = .returned (u (bits .andNot .u32 x y)) ∧ w' = w := by
  go_enter Try.func65, Try.ntmps65
  go_wp2_with fail
  go_ret
  exact ⟨rfl, rfl⟩
theorem mvn_calls (w : World) (x y : Int) : Calls Try.prog 66 #[u x, u y] w fun e w' => e = .returned (u (NOT y)) ∧ w' = w := by
  have hs := unsig
  go_enter Try.func66, Try.ntmps66
  go_wp2_with fail
  go_ret
  exact ⟨rfl, rfl⟩
theorem sub_calls (w : World) (x y : Int) (c : Bool) : Calls Try.prog 57 #[u x, u y, .bool c] w fun e w' => e = .returned (.tuple #[u x, u (NOT y), .bool true]) ∧ w' = w := by
  have hs := unsig
  go_enter Try.func57, Try.ntmps57
  go_wp2_with fail
  exact bodyPost_ret (v := .tuple #[u x, u (NOT y), .bool true]) (by simp [results, Try.results57, go_sem, NOT]) rfl ⟨rfl, rfl⟩
theorem add_calls (w : World) (x y : Int) (c : Bool) : Calls Try.prog 58 #[u x, u y, .bool c] w fun e w' => e = .returned (.tuple #[u x, u y, .bool false]) ∧ w' = w := by
  go_enter Try.func58, Try.ntmps58
  go_wp2_with fail
  exact bodyPost_ret (v := .tuple #[u x, u y, .bool false]) (by simp [results, Try.results58, go_sem, NOT]) rfl ⟨rfl, rfl⟩
theorem rsb_calls (w : World) (x y : Int) (c : Bool) : Calls Try.prog 59 #[u x, u y, .bool c] w fun e w' => e = .returned (.tuple #[u (NOT x), u y, .bool true]) ∧ w' = w := by
  have hs := unsig
  go_enter Try.func59, Try.ntmps59
  go_wp2_with fail
  exact bodyPost_ret (v := .tuple #[u (NOT x), u y, .bool true]) (by simp [results, Try.results59, go_sem, NOT]) rfl ⟨rfl, rfl⟩
theorem adc_calls (w : World) (x y : Int) (c : Bool) : Calls Try.prog 60 #[u x, u y, .bool c] w fun e w' => e = .returned (.tuple #[u x, u y, .bool c]) ∧ w' = w := by
  go_enter Try.func60, Try.ntmps60
  go_wp2_with fail
  exact bodyPost_ret (v := .tuple #[u x, u y, .bool c]) (by simp [results, Try.results60, go_sem, NOT]) rfl ⟨rfl, rfl⟩
theorem sbc_calls (w : World) (x y : Int) (c : Bool) : Calls Try.prog 61 #[u x, u y, .bool c] w fun e w' => e = .returned (.tuple #[u x, u (NOT y), .bool c]) ∧ w' = w := by
  have hs := unsig
  go_enter Try.func61, Try.ntmps61
  go_wp2_with fail
  exact bodyPost_ret (v := .tuple #[u x, u (NOT y), .bool c]) (by simp [results, Try.results61, go_sem, NOT]) rfl ⟨rfl, rfl⟩
theorem rsc_calls (w : World) (x y : Int) (c : Bool) : Calls Try.prog 62 #[u x, u y, .bool c] w fun e w' => e = .returned (.tuple #[u (NOT x), u y, .bool c]) ∧ w' = w := by
  have hs := unsig
  go_enter Try.func62, Try.ntmps62
  go_wp2_with fail
  exact bodyPost_ret (v := .tuple #[u (NOT x), u y, .bool c]) (by simp [results, Try.results62, go_sem, NOT]) rfl ⟨rfl, rfl⟩
end Go.Proofs.Yteakgeplefjncaa
