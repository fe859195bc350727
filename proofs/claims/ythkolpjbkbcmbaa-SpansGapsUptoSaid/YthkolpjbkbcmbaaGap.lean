/- The walks of up, Gap and fits. -/
import Derived.Test.YthkolpjbkbcmbaaGapM
import Derived.Test.YthkolpjbkbcmbaaLook
import Derived.Test.YthkolpjbkbcmbaaKeys
set_option linter.unusedVariables false
set_option linter.unusedSimpArgs false
namespace Go.Proofs.Ythkolpjbkbcmbaa
open Go.RowKit

set_option maxHeartbeats 1000000 in
theorem up_calls (w : World) (k a : Int) (h0 : 0 ≤ k) (ht : k ≤ 18446744073709551615) (ha : 1 ≤ a) (hat : a ≤ 18446744073709551615) :
    Calls Try.prog 63 #[.int .u64 k, .int .u64 a] w fun e w' => e = .returned (.tuple #[.int .u64 ((M.upO k a).getD 0), .bool (M.upO k a).isSome]) ∧ w' = w := by
  have hr0 := Int.emod_nonneg k (show a ≠ 0 by omega)
  have hr1 := Int.emod_lt_of_pos k (show 0 < a by omega)
  have ha0 : (a == 0) = false := by simp; omega
  have hcase : (k % a = 0 ∧ M.upO k a = some k) ∨ (k % a ≠ 0 ∧ M.top - (a - k % a) < k ∧ M.upO k a = none) ∨ (k % a ≠ 0 ∧ ¬ M.top - (a - k % a) < k ∧ M.upO k a = some (k + (a - k % a))) := by
    unfold M.upO
    by_cases h : k % a = 0
    · exact .inl ⟨h, if_pos h⟩
    · by_cases h2 : M.top - (a - k % a) < k
      · exact .inr (.inl ⟨h, h2, by rw [if_neg h, if_pos h2]⟩)
      · exact .inr (.inr ⟨h, h2, by rw [if_neg h, if_neg h2]⟩)
  unfold M.top at hcase
  rcases hcase with ⟨h, e⟩ | ⟨h, h2, e⟩ | ⟨h, h2, e⟩
  · rw [e]; clear e
    have q : (k % a == 0) = true := by simpa using h
    clear h
    go_enter Try.func63, Try.ntmps63
    go_wp2
    go_ret2
    exact ⟨rfl, rfl⟩
  · rw [e]; clear e
    have q : (k % a == 0) = false := by simpa using h
    go_enter Try.func63, Try.ntmps63
    go_wp2
    go_ret2
    exact ⟨rfl, rfl⟩
  · rw [e]; clear e
    have q : (k % a == 0) = false := by simpa using h
    go_enter Try.func63, Try.ntmps63
    go_wp2
    go_ret2
    exact ⟨rfl, rfl⟩

def gapMu : Value → Value → Nat
  | .int _ g, .bool true => (18446744073709551616 - g).toNat
  | _, _ => 0

/-- What Gap answers. -/
def GapOut (w : World) (L : List S) (lo hi n a : Int) (e : Ending) (w' : World) : Prop :=
  ∃ g ok, e = .returned (.tuple #[.int .u64 g, .bool ok]) ∧ M.GapIs L lo hi n a g ok ∧ Below w.heap.size w w'

set_option maxRecDepth 100000 in
set_option maxHeartbeats 1000000 in
theorem gap_core (w : World) (p : Nat) (L : List S) (lo hi n a : Int) (hM : MapAt w 0 p L) (hW : M.WF L) (hL : L.length ≤ 1000000000)
    (lo0 : 0 ≤ lo) (lot : lo ≤ 18446744073709551615) (hi0 : 0 ≤ hi) (hit : hi ≤ 18446744073709551615) (n1 : 1 ≤ n) (nt : n ≤ 18446744073709551615) (a1 : 1 ≤ a) (at_ : a ≤ 18446744073709551615) :
    Calls Try.prog 44 #[.pointer (some ⟨p, 0, none⟩), .int .u64 lo, .int .u64 hi, .int .u64 n, .int .u64 a] w (GapOut w L lo hi n a) := by
  have q0 : (n == 0) = false := by simp; omega
  have q1 : (a == 0) = false := by simp; omega
  have q2 : ¬ (n = 0 ∨ a = 0) := by omega
  have HUp := fun W k (h0 : 0 ≤ k) (h1 : k ≤ 18446744073709551615) => Lib.hid (up_calls W k a h0 h1 a1 at_)
  have HS0 := M.seek_start L (lo := lo) (hi := hi) (n := n) a1 lo0 lot hit
  have HNext := fun W (h : MapAt W 0 p L) x => Lib.hid (next_calls W 0 p L x h hW hL)
  go_enter Try.func44, Try.ntmps44
  go_wp2_with fail
  refine (HUp _ lo lo0 lot).out.mono ?_
  rintro e w' ⟨rfl, rfl⟩
  go_wp2_with fail
  go_loopw [12, 13] (fun g ok wr => ∃ o : Option Int, g = .int .u64 (o.getD 0) ∧ ok = .bool o.isSome ∧ M.Seek L lo hi n a o ∧ Below w'.heap.size w' wr) (fun g ok _ => gapMu g ok)
  case atStart => exact ⟨_, rfl, rfl, HS0, Below.refl _ _⟩
  case round =>
    obtain ⟨o, rfl, rfl, hS, hB⟩ := hrel
    clear HS0
    cases o with
    | none =>
      dsimp only [Option.isSome_none, Option.getD_none]
      go_wp2_with fail
      go_ret2
      refine ⟨0, false, rfl, ?_, hB⟩
      unfold M.GapIs
      rw [if_neg q2]
      exact .inr ⟨rfl, rfl, hS⟩
    | some g =>
      dsimp only [Option.isSome_some, Option.getD_some]
      have HS := Lib.hid hS
      obtain ⟨s1, s2, s3, s4, s5⟩ := hS
      have s4' : g ≤ 18446744073709551615 := s4
      clear s5 s1 s4
      by_cases c1 : hi < g
      · go_wp2_with fail
        go_ret2
        refine ⟨0, false, rfl, ?_, hB⟩
        unfold M.GapIs
        rw [if_neg q2]
        exact .inr ⟨rfl, rfl, M.seek_high HS.out (.inl c1)⟩
      · by_cases c2 : hi - g < n - 1
        · go_wp2_with fail
          go_ret2
          refine ⟨0, false, rfl, ?_, hB⟩
          unfold M.GapIs
          rw [if_neg q2]
          exact .inr ⟨rfl, rfl, M.seek_high HS.out (.inr c2)⟩
        · have hNx := HNext wr (hM.below hB) g
          cases hx : nxt L g with
          | none =>
            have hgood : M.Good L hi n g := ⟨by omega, by omega, fun k v h1 _ => nxt_none_has hW hx k v h1⟩
            have HG := Lib.hid hgood
            rw [hx] at hNx
            clear hx hgood HNext HUp
            go_wp2_with fail
            refine hNx.out.mono ?_
            rintro e w3 ⟨rfl, hb⟩
            dsimp only [sp, Option.getD_none, Option.isSome_none]
            clear hNx
            go_wp2_with fail
            go_ret2
            have hB3 := below_then hB hB.size hb
            refine ⟨g, true, rfl, ?_, hB3.alloc hB3.size _⟩
            unfold M.GapIs
            rw [if_neg q2]
            obtain ⟨s1, s2, s3, s4, s5⟩ := HS.out
            exact .inl ⟨rfl, s1, s2, s4, HG.out, s5⟩
          | some s =>
            obtain ⟨x1, x2⟩ := nxt_some_hi hW hx
            have hok := hW.1 s x2
            have y1 := hok.1
            have y2 := hok.2.1
            have y3 : s.hi ≤ 18446744073709551615 := hok.2.2
            by_cases c3 : g + (n - 1) < s.lo
            · have hgood : M.Good L hi n g := ⟨by omega, by omega, fun k v h1 h2 => nxt_some_has hW hx k v h1 (by omega)⟩
              have HG := Lib.hid hgood
              rw [hx] at hNx
              clear hx hgood HNext HUp hok x2
              go_wp2_with fail
              refine hNx.out.mono ?_
              rintro e w3 ⟨rfl, hb⟩
              dsimp only [sp, Option.getD_some, Option.isSome_some]
              clear hNx
              go_wp2_with fail
              go_ret2
              have hB3 := below_then hB hB.size hb
              refine ⟨g, true, rfl, ?_, hB3.alloc hB3.size _⟩
              unfold M.GapIs
              rw [if_neg q2]
              obtain ⟨s1, s2, s3, s4, s5⟩ := HS.out
              exact .inl ⟨rfl, s1, s2, s4, HG.out, s5⟩
            · rw [hx] at hNx
              by_cases c4 : s.hi = 18446744073709551615
              · have hend := M.seek_last hit n1 x2 HS.out (by omega) x1 y2 c4
                have HE := Lib.hid hend
                have c5 : (s.hi == 18446744073709551615) = true := by simpa using c4
                clear hx HNext HUp hok x2 c4 hend
                go_wp2_with fail
                refine hNx.out.mono ?_
                rintro e w3 ⟨rfl, hb⟩
                dsimp only [sp, Option.getD_some, Option.isSome_some]
                clear hNx
                go_wp2_with fail
                go_ret2
                have hB3 := below_then hB hB.size hb
                refine ⟨0, false, rfl, ?_, hB3.alloc hB3.size _⟩
                unfold M.GapIs
                rw [if_neg q2]
                exact .inr ⟨rfl, rfl, HE.out⟩
              · have hnx := M.seek_next a1 hit n1 x2 HS.out (by omega) x1 y2 (by unfold M.top; omega)
                have HE := Lib.hid hnx
                have c5 : (s.hi == 18446744073709551615) = false := by simpa using c4
                have hup := fun W => HUp W (s.hi + 1) (by omega) (by omega)
                have c6 : s.hi ≤ 18446744073709551614 := by omega
                have hsp : ∀ o, M.upO (s.hi + 1) a = o → gapMu (.int .u64 (o.getD 0)) (.bool o.isSome) < gapMu (.int .u64 g) (.bool true) := by
                  intro o ho
                  cases o with
                  | none => dsimp only [Option.getD_none, Option.isSome_none, gapMu]; omega
                  | some m =>
                    have := (M.up_some a1 (by omega) (by unfold M.top; omega) ho).2.1
                    have := (M.up_some a1 (by omega) (by unfold M.top; omega) ho).2.2.1
                    unfold M.top at this
                    simp only [Option.getD_some, Option.isSome_some, gapMu]
                    omega
                have HMU := Lib.hid (hsp _ rfl)
                clear hx HNext HUp hok x2 c4 hnx hsp
                go_wp2_with fail
                refine hNx.out.mono ?_
                rintro e w3 ⟨rfl, hb⟩
                dsimp only [sp, Option.getD_some, Option.isSome_some]
                clear hNx
                go_wp2_with fail
                refine (hup _).out.mono ?_
                rintro e w4 ⟨rfl, rfl⟩
                go_wp2_with fail
                have hB3 := below_then hB hB.size hb
                go_roundw
                case rel => exact ⟨_, rfl, rfl, HE.out, hB3.alloc hB3.size _⟩
                case measure => exact HMU.out

set_option maxRecDepth 100000 in
set_option maxHeartbeats 400000 in
theorem gap_zero (w : World) (p : Nat) (L : List S) (lo hi n a : Int) (h : n = 0 ∨ a = 0) :
    Calls Try.prog 44 #[.pointer (some ⟨p, 0, none⟩), .int .u64 lo, .int .u64 hi, .int .u64 n, .int .u64 a] w (GapOut w L lo hi n a) := by
  have hg : M.GapIs L lo hi n a 0 false := by unfold M.GapIs; rw [if_pos h]; exact ⟨rfl, rfl⟩
  have HG := Lib.hid hg
  have hcase : ((n == 0) = true) ∨ ((n == 0) = false ∧ (a == 0) = true) := by
    by_cases h0 : n = 0
    · exact .inl (by simpa using h0)
    · exact .inr ⟨by simpa using h0, by rcases h with h | h; exact absurd h h0; simpa using h⟩
  clear h hg
  rcases hcase with q | ⟨q, q'⟩
  all_goals
    go_enter Try.func44, Try.ntmps44
    go_wp2_with fail
    go_ret2
    exact ⟨0, false, rfl, HG.out, Below.refl _ _⟩

/-- Gap, as one contract. -/
theorem gap_calls (w : World) (p : Nat) (L : List S) (lo hi n a : Int) (hM : MapAt w 0 p L) (hW : M.WF L) (hL : L.length ≤ 1000000000)
    (hlo : inU lo) (hhi : inU hi) (hn : inU n) (ha : inU a) :
    Calls Try.prog 44 #[.pointer (some ⟨p, 0, none⟩), .int .u64 lo, .int .u64 hi, .int .u64 n, .int .u64 a] w (GapOut w L lo hi n a) := by
  unfold inU M.top at *
  by_cases h : n = 0 ∨ a = 0
  · exact gap_zero w p L lo hi n a h
  · exact gap_core w p L lo hi n a hM hW hL hlo.1 hlo.2 hhi.1 hhi.2 (by omega) hn.2 (by omega) ha.2

/-- Would n keys from g on do? -/
noncomputable def good (L : List S) (hi n g : Int) : Bool := @decide (n ≠ 0 ∧ M.Good L hi n g) (Classical.propDecidable _)
theorem good_iff (L : List S) (hi n g : Int) : good L hi n g = true ↔ n ≠ 0 ∧ M.Good L hi n g := by unfold good; exact @decide_eq_true_iff _ (Classical.propDecidable _)

set_option maxRecDepth 100000 in
set_option maxHeartbeats 1000000 in
theorem fits_calls (w : World) (p : Nat) (L : List S) (g n hi : Int) (hM : MapAt w 0 p L) (hW : M.WF L) (hL : L.length ≤ 1000000000)
    (hg : inU g) (hn : inU n) (hh : inU hi) :
    Calls Try.prog 46 #[.pointer (some ⟨p, 0, none⟩), .int .u64 g, .int .u64 n, .int .u64 hi] w fun e w' => e = .returned (.bool (good L hi n g)) ∧ Below w.heap.size w w' := by
  obtain ⟨g0, gt⟩ := hg
  obtain ⟨n0, nt⟩ := hn
  obtain ⟨h0, ht⟩ := hh
  unfold M.top at gt nt ht
  have hNx := Lib.hid (next_calls w 0 p L g hM hW hL)
  have hno : ∀ {P : Prop}, ¬ (n ≠ 0 ∧ M.Good L hi n g) → good L hi n g = false := fun h => by
    cases hb : good L hi n g with
    | false => rfl
    | true => exact absurd ((good_iff L hi n g).1 hb) h
  by_cases c0 : n = 0
  · have HG := Lib.hid (hno (P := True) (fun h => h.1 c0))
    have q : (n == 0) = true := by simpa using c0
    clear hno c0
    go_enter Try.func46, Try.ntmps46
    go_wp2_with fail
    go_ret
    exact ⟨by rw [HG.out]; rfl, Below.refl _ _⟩
  · have q : (n == 0) = false := by simpa using c0
    by_cases c1 : hi < g
    · have HG := Lib.hid (hno (P := True) (fun h => by have := h.2.1; omega))
      clear hno c0
      go_enter Try.func46, Try.ntmps46
      go_wp2_with fail
      go_ret
      exact ⟨by rw [HG.out]; rfl, Below.refl _ _⟩
    · by_cases c2 : hi - g < n - 1
      · have HG := Lib.hid (hno (P := True) (fun h => by have := h.2.2.1; omega))
        clear hno
        have n1 : 1 ≤ n := by omega
        clear c0
        go_enter Try.func46, Try.ntmps46
        go_wp2_with fail
        go_ret
        exact ⟨by rw [HG.out]; rfl, Below.refl _ _⟩
      · have n1 : 1 ≤ n := by omega
        have hend : ∃ bb, good L hi n g = bb ∧ ((sp (nxt L g), (nxt L g).isSome) = (zs, false) ∧ bb = true ∨ ∃ s, (sp (nxt L g), (nxt L g).isSome) = (s, true) ∧ ((g + (n - 1) < s.lo ∧ bb = true) ∨ (¬ g + (n - 1) < s.lo ∧ bb = false))) := by
          cases hx : nxt L g with
          | none => exact ⟨true, (good_iff L hi n g).2 ⟨c0, by omega, by omega, fun k v h1 _ => nxt_none_has hW hx k v h1⟩, .inl ⟨rfl, rfl⟩⟩
          | some s =>
            obtain ⟨x1, x2⟩ := nxt_some_hi hW hx
            have := (hW.1 s x2).2.1
            by_cases c3 : g + (n - 1) < s.lo
            · exact ⟨true, (good_iff L hi n g).2 ⟨c0, by omega, by omega, fun k v h1 h2 => nxt_some_has hW hx k v h1 (by omega)⟩, .inr ⟨s, rfl, .inl ⟨c3, rfl⟩⟩⟩
            · refine ⟨false, hno (P := True) (fun h => ?_), .inr ⟨s, rfl, .inr ⟨c3, rfl⟩⟩⟩
              rcases Int.lt_or_le s.lo g with h' | h'
              · exact h.2.2.2 g s.v (Int.le_refl _) (by omega) ⟨s, x2, by omega, x1, rfl⟩
              · exact h.2.2.2 s.lo s.v h' (by omega) ⟨s, x2, Int.le_refl _, this, rfl⟩
        obtain ⟨bb, e, hb⟩ := hend
        have HG := Lib.hid e
        clear e hno c0
        have h1 := hNx.out
        rcases hb with ⟨e1, rfl⟩ | ⟨s, e1, hb⟩
        · injection e1 with e1 e2
          rw [e1, e2] at h1
          have H1 := Lib.hid h1
          clear h1 e1 e2 hNx
          go_enter Try.func46, Try.ntmps46
          go_wp2_with fail
          refine H1.out.mono ?_
          rintro e w3 ⟨rfl, hb⟩
          clear H1
          go_wp2_with fail
          go_ret
          exact ⟨by rw [HG.out]; rfl, hb.alloc hb.size _⟩
        · injection e1 with e1 e2
          rw [e1, e2] at h1
          have H1 := Lib.hid h1
          clear h1 e1 e2 hNx
          rcases hb with ⟨c3, rfl⟩ | ⟨c3, rfl⟩
          · have q5 : decide (g + (n - 1) < s.lo) = true := by simpa using c3
            go_enter Try.func46, Try.ntmps46
            go_wp2_with fail
            refine H1.out.mono ?_
            rintro e w3 ⟨rfl, hb⟩
            clear H1
            go_wp2_with fail
            go_ret
            exact ⟨by rw [HG.out]; rfl, hb.alloc hb.size _⟩
          · have q5 : decide (g + (n - 1) < s.lo) = false := by simpa using c3
            go_enter Try.func46, Try.ntmps46
            go_wp2_with fail
            refine H1.out.mono ?_
            rintro e w3 ⟨rfl, hb⟩
            clear H1
            go_wp2_with fail
            go_ret
            exact ⟨by rw [HG.out]; rfl, hb.alloc hb.size _⟩
end Go.Proofs.Ythkolpjbkbcmbaa
