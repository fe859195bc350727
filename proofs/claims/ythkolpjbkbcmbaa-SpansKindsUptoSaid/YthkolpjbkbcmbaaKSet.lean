/- The walks of New, Set, Clear, Spans and tag over maps of Tags. Printed by mkk.py. -/
import Derived.Test.YthkolpjbkbcmbaaKLay
import Derived.Test.YthkolpjbkbcmbaaSet
import Derived.Test.YthkolpjbkbcmbaaList
set_option linter.unusedVariables false
set_option linter.unusedSimpArgs false
namespace Go.Proofs.Ythkolpjbkbcmbaa.K
open Go.RowKit

theorem MapAt.lower {w : World} {base p : Nat} {L : List S} (h : MapAt w base p L) : MapAt w 0 p L := by
  obtain ⟨A, c, hp, h1, h2⟩ := h
  exact ⟨A, c, hp, h1, h2.imp id fun ⟨g, cap, cur, e1, _, e3⟩ => ⟨g, cap, cur, e1, Nat.zero_le _, e3⟩⟩

theorem new_calls (w : World) : Calls Try.prog 21 #[] w fun e w' => e = .returned (.pointer (some ⟨w.heap.size, 0, none⟩)) ∧ MapAt w' 0 w.heap.size [] ∧ Below w.heap.size w w' := by
  go_enter Try.func21, Try.ntmps21
  go_wp2
  go_ret
  refine ⟨rfl, ⟨none, 0, ?_, World.ownsRow_nil _ _ _ _⟩, (Below.refl _ _).alloc (Nat.le_refl _) _⟩
  exact heap_alloc_new w _

set_option maxHeartbeats 400000 in
theorem set_bad (w : World) (p : Nat) (lo hi t : Int) (tb : Bool) (h : hi < lo) : Calls Try.prog 23 #[.pointer (some ⟨p, 0, none⟩), .int .u64 lo, .int .u64 hi, .agg #[.int .i64 t, .bool tb]] w fun e w' => e = .returned (.int .i64 20) ∧ w' = w.alloc (.cells #[.int .i64 t, .bool tb] 46) := by
  go_enter Try.func23, Try.ntmps23
  go_wp2_with fail
  go_ret
  exact ⟨rfl, rfl⟩

set_option maxHeartbeats 400000 in
theorem set_ok (w : World) (base p : Nat) (L : List S) (lo hi v t : Int) (tb : Bool) (ht1 : t = v / 2) (htb1 : tb = (v % 2 != 0)) (hM : MapAt w base p L) (hn : L.length ≤ 500000000) (hW : M.WF L) (h0 : 0 ≤ lo) (hlh : lo ≤ hi) (ht : hi ≤ M.top) :
    Calls Try.prog 23 #[.pointer (some ⟨p, 0, none⟩), .int .u64 lo, .int .u64 hi, .agg #[.int .i64 t, .bool tb]] w fun e w' => e = .returned (.int .i64 0) ∧ MapAt w' 0 p (M.lay L lo hi [⟨lo, hi, v⟩]) ∧ w.grownBy w' (some p) := by
  have hsl : RowAt ((w.alloc (.cells #[.int .i64 t, .bool tb] 46)).alloc (.cells #[.int .u64 lo, .int .u64 hi, .int .i64 t, .bool tb] 65)) 0 (.slice (some ⟨w.heap.size + 1, 0, none⟩) 1 1) [⟨lo, hi, v⟩] := by
    subst ht1
    subst htb1
    have := World.ownsRow_lit (e := 65) (size := 4) (w.alloc (.cells #[.int .i64 (v / 2), .bool (v % 2 != 0)] 46)) #[.int .u64 lo, .int .u64 hi, .int .i64 (v / 2), .bool (v % 2 != 0)] 1 (Nat.zero_le _) (by unfold maxLen; omega) rfl
    unfold RowAt
    simpa [flat] using this
  have hc := lay_calls _ base p L lo hi _ 0 [⟨lo, hi, v⟩] ((hM.alloc (.cells #[.int .i64 t, .bool tb] 46)).alloc (.cells #[.int .u64 lo, .int .u64 hi, .int .i64 t, .bool tb] 65)) hn hW h0 hlh ht hsl (by simp)
    ⟨fun s hs => by obtain rfl : s = ⟨lo, hi, v⟩ := by simpa using hs
                    exact ⟨h0, hlh, ht⟩, by simp⟩ (fun s hs => by obtain rfl : s = ⟨lo, hi, v⟩ := by simpa using hs
                                                                  exact ⟨rfl, rfl⟩)
  have HC := Lib.hid hc
  clear hc hsl hM hW ht ht1 htb1
  go_enter Try.func23, Try.ntmps23
  go_wp2_with fail
  refine HC.out.mono ?_
  rintro e w' ⟨rfl, h1, h2⟩
  clear HC
  go_wp2_with fail
  go_ret
  exact ⟨rfl, h1, grown_alloc (grown_alloc h2)⟩

set_option maxHeartbeats 400000 in
theorem clear_bad (w : World) (p : Nat) (lo hi : Int) (h : hi < lo) : Calls Try.prog 26 #[.pointer (some ⟨p, 0, none⟩), .int .u64 lo, .int .u64 hi] w fun e w' => e = .returned (.int .i64 20) ∧ w = w' := by
  go_enter Try.func26, Try.ntmps26
  go_wp2_with fail
  go_ret
  exact ⟨rfl, rfl⟩

set_option maxHeartbeats 400000 in
theorem clear_ok (w : World) (base p : Nat) (L : List S) (lo hi : Int) (hM : MapAt w base p L) (hn : L.length ≤ 500000000) (hW : M.WF L) (h0 : 0 ≤ lo) (hlh : lo ≤ hi) (ht : hi ≤ M.top) :
    Calls Try.prog 26 #[.pointer (some ⟨p, 0, none⟩), .int .u64 lo, .int .u64 hi] w fun e w' => e = .returned (.int .i64 0) ∧ MapAt w' 0 p (M.lay L lo hi []) ∧ w.grownBy w' (some p) := by
  have hc := lay_calls w base p L lo hi (.slice none 0 0) 0 [] hM hn hW h0 hlh ht (RowAt.nil _ _) (by simp) M.WF.nil (by simp)
  have HC := Lib.hid hc
  clear hc hM hW ht
  go_enter Try.func26, Try.ntmps26
  go_wp2_with fail
  refine HC.out.mono ?_
  rintro e w' ⟨rfl, h1, h2⟩
  clear HC
  go_wp2_with fail
  go_ret
  exact ⟨rfl, h1, h2⟩

theorem set_calls (w : World) (p : Nat) (L : List S) (lo hi v : Int) (hM : MapAt w 0 p L) (hn : L.length ≤ 500000000) (hW : M.WF L) (h0 : 0 ≤ lo) (ht : hi ≤ M.top) :
    Calls Try.prog 23 #[.pointer (some ⟨p, 0, none⟩), .int .u64 lo, .int .u64 hi, .agg #[.int .i64 (v / 2), .bool (v % 2 != 0)]] w fun e w' => e = .returned (.int .i64 (eno lo hi)) ∧ MapAt w' 0 p (put L lo hi (some v)) ∧ w.grownBy w' (some p) := by
  unfold eno put
  by_cases h : hi < lo
  · rw [if_pos h, if_pos h]
    refine (set_bad w p lo hi _ _ h).mono ?_
    rintro e w' ⟨rfl, rfl⟩
    exact ⟨rfl, hM.alloc _, World.grownBy_alloc _ _ _⟩
  · rw [if_neg h, if_neg h]
    exact set_ok w 0 p L lo hi v _ _ rfl rfl hM hn hW h0 (by omega) ht

theorem clear_calls (w : World) (p : Nat) (L : List S) (lo hi : Int) (hM : MapAt w 0 p L) (hn : L.length ≤ 500000000) (hW : M.WF L) (h0 : 0 ≤ lo) (ht : hi ≤ M.top) :
    Calls Try.prog 26 #[.pointer (some ⟨p, 0, none⟩), .int .u64 lo, .int .u64 hi] w fun e w' => e = .returned (.int .i64 (eno lo hi)) ∧ MapAt w' 0 p (put L lo hi none) ∧ w.grownBy w' (some p) := by
  unfold eno put
  by_cases h : hi < lo
  · rw [if_pos h, if_pos h]
    refine (clear_bad w p lo hi h).mono ?_
    rintro e w' ⟨rfl, rfl⟩
    exact ⟨rfl, hM, World.grownBy.refl _ _⟩
  · rw [if_neg h, if_neg h]
    exact clear_ok w 0 p L lo hi hM hn hW h0 (by omega) ht

/-- 'copy' of n elements of four cells each into a row of just that size. -/
theorem run_copy4 (w : World) (ty : TypeId) (g n c : Nat) (A : Option Addr) (cur : Array Value) (t : TypeId) (cs : List Value) (hg : w.heap[g]? = some (.cells cur t (0, 0))) (hcur : cur.size = n * 4) (hcs : cs.length = n * 4)
    (hsrc : (A = none ∧ n = 0 ∧ c = 0) ∨ ∃ a, A = some a ∧ ∀ j v, cs[j]? = some v → w.cell? (a.add j) = some v) (h1 : ∀ v ∈ cs, v.oneCell' = true) :
    (Builtin.copy_ #[59, 59] ty #[.slice (some ⟨g, 0, none⟩) n n, .slice A n c]).run Try.prog w = .ok (goInt n) (w.setRow g cs.toArray) := by
  obtain ⟨i0, hi, hz0, hz1, hz2⟩ := info_parts info65
  rcases hsrc with ⟨rfl, rfl, rfl⟩ | ⟨a, rfl, hsrc⟩
  · have e : cs = [] := List.eq_nil_of_length_eq_zero (by simpa using hcs)
    have e2 : cur = #[] := Array.eq_empty_of_size_eq_zero (by simpa using hcur)
    subst e; subst e2
    rw [run_copy_nil (P := Try.prog) w 59 59 ty 65 _ 0 0 Try.underlying59 (by rw [hi]; rfl), setRow_self w g #[] t (0, 0) hg]
    rfl
  · have hl := run_loadCells_list (P := Try.prog) w a cs hsrc
    have hst := run_storeCells_at Try.prog g 0 t cs 0 cur w hg (by omega) h1
    have hd : cur.toList.drop cs.length = [] := List.drop_eq_nil_of_le (by simp; omega)
    simp only [Nat.zero_add, List.take_zero, List.nil_append, hd, List.append_nil] at hst
    have hmul : n * 4 = cs.length := hcs.symm
    simp [Builtin.copy_, run_underlying Try.underlying59, Builtin.lenOf, Builtin.firstCells, sizeOf, typeInfo, hi, hz1, hmul, hl, hst]

theorem flat_one (l : List S) : ∀ v ∈ flat l, v.oneCell' = true := by
  induction l with
  | nil => simp [flat]
  | cons s l ih => intro v hv; simp only [flat, List.mem_cons] at hv; rcases hv with rfl | rfl | rfl | rfl | hv <;> first | rfl | exact ih v hv

/-- 'copy(out, row)' of a row of spans, where out is just that long. -/
theorem copy_spans {W w0 : World} (ty : TypeId) (B base g n c : Nat) (A : Option Addr) (l : List S) (xs : List Value)
    (hn : l.length = n) (HO : W.ownsRow B 65 4 (.slice (some ⟨g, 0, none⟩) n n) n xs) (HS : W.ownsRow base 65 4 (.slice A n c) n (flat l)) (hb : Below B w0 W) :
    ∃ w', (Builtin.copy_ #[59, 59] ty #[.slice (some ⟨g, 0, none⟩) n n, .slice A n c]).run Try.prog W = .ok (.int .i64 n) w' ∧ RowAt w' B (.slice (some ⟨g, 0, none⟩) n n) l ∧ Below B w0 w' := by
  subst hn
  rcases HO.2 with ⟨h1, _⟩ | ⟨g', cap, cur, h1, hbg, hg, _, hcap, hcur, _⟩
  · cases h1
  · injection h1 with h1 _ h2
    injection h1 with h1
    injection h1 with h1 _ _
    subst h1
    subst h2
    have hsrc : (A = none ∧ l.length = 0 ∧ c = 0) ∨ ∃ a, A = some a ∧ ∀ j v, (flat l)[j]? = some v → W.cell? (a.add j) = some v := by
      rcases HS.2 with ⟨e, e2⟩ | ⟨g2, cap2, cur2, e, _⟩
      · injection e with e1 _ e3
        exact .inl ⟨e1, e2, e3⟩
      · injection e with e1 _ e3
        subst e1
        exact .inr ⟨_, rfl, World.ownsRow.cells HS (g := g2) rfl⟩
    have hrun := run_copy4 W ty g l.length c A cur 65 (flat l) hg hcur (flat_length l) hsrc (flat_one l)
    refine ⟨_, hrun, ⟨flat_length l, .inr ⟨g, l.length, (flat l).toArray, rfl, hbg, setRow_heap W g cur _ 65 _ hg, Nat.le_refl _, hcap, by simpa using flat_length l, ?_⟩⟩, ?_⟩
    · rw [← flat_length l]; simp
    · exact hb.trans ⟨rfl, rfl, rfl, by simp [World.setRow], fun k hk => by simp only [World.setRow, Array.getElem?_modify]; rw [if_neg (by omega)]⟩

set_option maxRecDepth 100000 in
set_option maxHeartbeats 400000 in
theorem spans_calls (w : World) (p : Nat) (L : List S) (hM : MapAt w 0 p L) (hn : L.length ≤ 1000000000) :
    Calls Try.prog 30 #[.pointer (some ⟨p, 0, none⟩)] w fun e w' => e = .returned (.slice (some ⟨w.heap.size, 0, none⟩) L.length L.length) ∧ RowAt w' w.heap.size (.slice (some ⟨w.heap.size, 0, none⟩) L.length L.length) L ∧ Below w.heap.size w w' := by
  obtain ⟨i0, hi0, hz0, hz1, hz2⟩ := info_parts info65
  obtain ⟨A, c, hp, hrow⟩ := hM
  have hc0 : w.cell? ⟨p, 0, none⟩ = some (.slice A L.length c) := by simp [cell_of_row w p 0 _ _ _ hp]
  have hpl : p < w.heap.size := (Array.getElem?_eq_some_iff.1 hp).1
  have HR : Hid (w.ownsRow 0 65 4 (.slice A L.length c) L.length (flat L)) := Lib.hid hrow
  clear hp hrow
  generalize hln : L.length = n at *
  have HN := Lib.hid hln
  clear hln
  go_enter Try.func30, Try.ntmps30
  go_wp2_with (at_make; (refine wpList_make_full _ rfl _ _ 59 rfl w.heap.size 65 i0 _ 4 Try.underlying59 hi0 hz0 hz1 .i64 .i64 _ _ n rfl rfl (by omega) (by omega) (by rw [hz2]; omega) (by unfold maxLen; omega) (Nat.le_refl _) ?_); intro w1 hown hg1; have hc1 := hg1.cell hc0 (by simp))
  have hB1 : Below w.heap.size w w1 := (Below.refl _ _).grown hg1 (Nat.le_refl _) (by simp)
  have HS := World.ownsRow.kept HR.out hg1 (by cases A <;> simp [Value.ownBlock])
  clear hg1 hc0
  obtain ⟨w2, hrun, hR2, hB2⟩ := copy_spans 3 w.heap.size 0 w.heap.size n c A L _ HN.out hown HS hB1
  clear hown HS hB1
  rw [hrun]
  clear hrun
  go_wp2_with fail
  go_ret
  exact ⟨rfl, hR2, hB2⟩


theorem wrap_i64_small {n : Int} (h0 : 0 ≤ n) (h1 : n < 9223372036854775808) : IntKind.i64.wrap n = n := by rw [IntKind.wrap_i64]; omega
theorem and_i64 (i : Nat) (hi : i < 63) (n : Int) : bits .and .i64 n (2 ^ i - 1) = n % 2 ^ i := by
  obtain ⟨a, ha⟩ := Int.eq_ofNat_of_zero_le (show 0 ≤ n % 18446744073709551616 by omega)
  have hal : a < 2 ^ 64 := by omega
  have hpos : 0 < 2 ^ i := Nat.two_pow_pos i
  have hp : (2 : Nat) ^ i < 2 ^ 63 := Nat.pow_lt_pow_right (by decide) hi
  have hc : ((2 : Int) ^ i - 1) = ((2 ^ i - 1 : Nat) : Int) := by rw [Int.natCast_sub hpos]; simp
  have hn : BitVec.ofInt 64 n = BitVec.ofNat 64 a := by
    apply BitVec.eq_of_toNat_eq
    rw [BitVec.toNat_ofInt, BitVec.toNat_ofNat]
    have : (2 : Int) ^ 64 = 18446744073709551616 := rfl
    simp only [Nat.reducePow, Int.cast_ofNat_Int] at *
    omega
  have hm : (2 ^ i - 1) % 2 ^ 64 = 2 ^ i - 1 := Nat.mod_eq_of_lt (by omega)
  have ham : a % 2 ^ 64 = a := Nat.mod_eq_of_lt hal
  rw [hc]
  show IntKind.i64.wrap ((((BitVec.ofInt 64 n : BitVec 64) &&& (BitVec.ofInt 64 ((2 ^ i - 1 : Nat) : Int) : BitVec 64) : BitVec 64).toNat : Nat) : Int) = _
  rw [hn, BitVec.ofInt_natCast, BitVec.toNat_and, BitVec.toNat_ofNat, BitVec.toNat_ofNat, hm, ham, Nat.and_two_pow_sub_one_eq_mod]
  have hlt : a % 2 ^ i < 2 ^ i := Nat.mod_lt _ hpos
  rw [wrap_i64_small (by omega) (by omega)]
  have hd : ((2 : Int) ^ i) ∣ 18446744073709551616 := by
    have : (18446744073709551616 : Int) = 2 ^ i * 2 ^ (64 - i) := by rw [← Int.pow_add, show i + (64 - i) = 64 by omega]; rfl
    exact ⟨_, this⟩
  rw [Int.natCast_emod, ← ha, Int.natCast_pow]
  exact Int.emod_emod_of_dvd n hd

theorem and_i64_1 (n : Int) : bits .and .i64 n 1 = n % 2 := by simpa using and_i64 1 (by decide) n
set_option maxHeartbeats 400000 in
/-- A number's Tag. -/
theorem tag_calls (w : World) (n : Int) : Calls Try.prog 24 #[.int .i64 n] w fun e w' => e = .returned (.agg #[.int .i64 (n / 2), .bool (n % 2 != 0)]) ∧ Below w.heap.size w w' := by
  go_enter Try.func24, Try.ntmps24
  go_wp2_with fail
  rw [and_i64_1]
  refine bodyPost_ret (v := .agg #[.int .i64 (n / 2), .bool (n % 2 != 0)]) (by simp [results, Try.results24, go_sem]) rfl ⟨rfl, (Below.refl _ _).alloc (Nat.le_refl _) _⟩
end Go.Proofs.Ythkolpjbkbcmbaa.K
