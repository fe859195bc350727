/- The walks of the reference's up and Gap, and of SpansGaps. -/
import Derived.Test.YthkolpjbkbcmbaaPlays
import Derived.Test.YthkolpjbkbcmbaaGap
set_option linter.unusedVariables false
set_option linter.unusedSimpArgs false
namespace Go.Proofs.Ythkolpjbkbcmbaa
open Go.RowKit

set_option maxHeartbeats 1000000 in
theorem rup_calls (w : World) (k a : Int) (h0 : 0 ≤ k) (ht : k ≤ 18446744073709551615) (ha : 1 ≤ a) (hat : a ≤ 18446744073709551615) :
    Calls Try.prog 64 #[.int .u64 k, .int .u64 a] w fun e w' => e = .returned (.tuple #[.int .u64 ((M.upO k a).getD 0), .bool (M.upO k a).isSome]) ∧ w' = w := by
  have hr0 := Int.emod_nonneg k (show a ≠ 0 by omega)
  have hr1 := Int.emod_lt_of_pos k (show 0 < a by omega)
  have ha0 : (a == 0) = false := by simp; omega
  have hcase : (k % a = 0 ∧ M.upO k a = some k) ∨ (k % a ≠ 0 ∧ M.top - (a - k % a) < k ∧ M.upO k a = none) ∨ (k % a ≠ 0 ∧ ¬ M.top - (a - k % a) < k ∧ M.upO k a = some (k + (a - k % a))) := by
    unfold M.upO
    by_cases h : k % a = 0
    · exact .inl ⟨h, if_pos h⟩
    · by_cases h2 : M.top - (a - k % a) < k
      · exact .inr (.inl ⟨h, h2, by rw [if_neg h, if_pos h2]⟩)
      · exact .inr (.inr ⟨h, h2, by rw [if_neg h, if_neg h2]⟩)
  unfold M.top at hcase
  rcases hcase with ⟨h, e⟩ | ⟨h, h2, e⟩ | ⟨h, h2, e⟩
  · rw [e]; clear e
    have q : (k % a == 0) = true := by simpa using h
    clear h
    go_enter Try.func64, Try.ntmps64
    go_wp2
    go_ret2
    exact ⟨rfl, rfl⟩
  · rw [e]; clear e
    have q : (k % a == 0) = false := by simpa using h
    go_enter Try.func64, Try.ntmps64
    go_wp2
    go_ret2
    exact ⟨rfl, rfl⟩
  · rw [e]; clear e
    have q : (k % a == 0) = false := by simpa using h
    go_enter Try.func64, Try.ntmps64
    go_wp2
    go_ret2
    exact ⟨rfl, rfl⟩


/-- None of the first j spans is in the way of the place g. -/
def Past (L : List S) (j : Nat) (n : Int) (o : Option Int) : Prop := ∀ g, o = some g → ∀ s ∈ L.take j, s.hi < g ∨ g + (n - 1) < s.lo

theorem Past.zero (L : List S) (n : Int) (o : Option Int) : Past L 0 n o := fun g _ s hs => by simp at hs
theorem Past.skip {L : List S} {j : Nat} {n g : Int} {s : S} (h : Past L j n (some g)) (hs : L[j]? = some s) (hc : s.hi < g ∨ g + (n - 1) < s.lo) : Past L (j + 1) n (some g) := by
  intro g' e t ht
  injection e with e
  subst e
  rcases take_mem hs ht with ht | rfl
  · exact h _ rfl t ht
  · exact hc
theorem Past.up {L : List S} (hW : M.WF L) {j : Nat} {n a g : Int} {s : S} (h : Past L j n (some g)) (hs : L[j]? = some s) (h1 : g ≤ s.hi) (h2 : s.lo ≤ g + (n - 1)) (ha : 1 ≤ a) (h0 : 0 ≤ s.hi) (ht : s.hi + 1 ≤ M.top) : Past L (j + 1) n (M.upO (s.hi + 1) a) := by
  intro g' e t htm
  have hg := (M.up_some ha (by omega) ht e).2.1
  rcases take_mem hs htm with htm | rfl
  · obtain ⟨i, hi⟩ := List.getElem?_of_mem htm
    have hij : i < j := by have := (List.getElem?_eq_some_iff.1 hi).1; simp at this; omega
    rw [List.getElem?_take, if_pos hij] at hi
    have hlt := (hW.lt hi hs hij).1
    have hto := (hW.1 t (List.mem_of_getElem? hi)).2.1
    have := h g rfl t htm
    omega
  · omega
theorem Past.good {L : List S} {hi n g : Int} (h : Past L L.length n (some g)) (h1 : ¬ hi < g) (h2 : ¬ hi - g < n - 1) : M.Good L hi n g := by
  refine ⟨by omega, by omega, fun k v k1 k2 => ?_⟩
  rintro ⟨s, hs, a, b, _⟩
  have := h g rfl s (by rw [List.take_length]; exact hs)
  omega

set_option maxRecDepth 100000 in
set_option maxHeartbeats 2000000 in
theorem rgap_core (w : World) (B p : Nat) (D : List M.Dn) (L : List S) (lo hi n a : Int) (hD : RefAt w B p D) (hn : D.length ≤ 100000000) (hB0 : B ≤ w.heap.size) (hS : Same L D)
    (lo0 : 0 ≤ lo) (lot : lo ≤ 18446744073709551615) (hi0 : 0 ≤ hi) (hit : hi ≤ 18446744073709551615) (n1 : 1 ≤ n) (nt : n ≤ 18446744073709551615) (a1 : 1 ≤ a) (at_ : a ≤ 18446744073709551615) :
    Calls Try.prog 45 #[.pointer (some ⟨p, 0, none⟩), .int .u64 lo, .int .u64 hi, .int .u64 n, .int .u64 a] w (GapOut w L lo hi n a) := by
  have q0 : (n == 0) = false := by simp; omega
  have q1 : (a == 0) = false := by simp; omega
  have q2 : Hid (¬ (n = 0 ∨ a = 0)) := by show ¬ _; omega
  have HUp := fun W k (h0 : 0 ≤ k) (h1 : k ≤ 18446744073709551615) => Lib.hid (rup_calls W k a h0 h1 a1 at_)
  have HS0 := Lib.hid (M.seek_start L (lo := lo) (hi := hi) (n := n) a1 lo0 lot hit)
  have HSp := Lib.hid (rspans_same w B p D L hD hn hB0 hS)
  have HW := Lib.hid hS.1
  have hGo : ∀ (e : Ending) (w' : World) (g : Int) (ok : Bool), e = .returned (.tuple #[.int .u64 g, .bool ok]) → ((ok = true ∧ a ∣ g ∧ lo ≤ g ∧ g ≤ M.top ∧ M.Good L hi n g ∧ ∀ g', a ∣ g' → lo ≤ g' → g' < g → ¬ M.Good L hi n g') ∨ (ok = false ∧ g = 0 ∧ ∀ g', a ∣ g' → lo ≤ g' → ¬ M.Good L hi n g')) → Below w.heap.size w w' → GapOut w L lo hi n a e w' :=
    fun e w' g ok he hg hb => ⟨g, ok, he, by unfold M.GapIs; rw [if_neg q2.out]; exact hg, hb⟩
  have HGo := Lib.hid hGo
  clear hGo hD hS
  go_enter Try.func45, Try.ntmps45
  go_wp2_with fail
  refine HSp.out.mono ?_
  rintro e w1 ⟨A, c, rfl, hR, hll, hb⟩
  have HB := Lib.hid hb
  obtain ⟨A', c', hv, hcell⟩ := hR.read
  injection hv with e1 e2 e3
  subst e1; subst e3
  clear e2 hR hb HSp
  generalize hln : L.length = m at *
  have HN := Lib.hid hln
  clear hln
  go_wp2_with fail
  refine (HUp _ lo lo0 lot).out.mono ?_
  rintro e w2 ⟨rfl, rfl⟩
  go_wp2_with fail
  go_loopw [13, 14, 15] (fun g ok i wr => ∃ (o : Option Int) (j : Nat), j ≤ m ∧ g = .int .u64 (o.getD 0) ∧ ok = .bool o.isSome ∧ i = .int .i64 j ∧ Hid (M.Seek L lo hi n a o) ∧ Hid (Past L j n o) ∧ wr = w2) (fun _ _ i _ => m - (intOf i).toNat)
  case atStart => exact ⟨_, 0, Nat.zero_le _, rfl, rfl, rfl, HS0, Past.zero _ _ _, rfl⟩
  case round =>
    obtain ⟨o, j, hj, rfl, rfl, rfl, HS, HP, rfl⟩ := hrel
    clear HS0
    cases o with
    | none =>
      dsimp only [Option.isSome_none, Option.getD_none]
      go_wp2_with fail
      go_ret2
      exact HGo.out _ _ 0 false rfl (.inr ⟨rfl, rfl, HS.out⟩) HB.out
    | some g =>
      dsimp only [Option.isSome_some, Option.getD_some]
      have g0 : 0 ≤ g := HS.out.2.2.1
      have g1 : g ≤ 18446744073709551615 := HS.out.2.2.2.1
      by_cases hjm : j < m
      · by_cases c1 : hi < g
        · have HE := Lib.hid (M.seek_high HS.out (.inl c1))
          clear hcell
          go_wp2_with fail
          go_ret2
          exact HGo.out _ _ 0 false rfl (.inr ⟨rfl, rfl, HE.out⟩) HB.out
        · by_cases c2 : hi - g < n - 1
          · have HE := Lib.hid (M.seek_high HS.out (.inr c2))
            clear hcell
            go_wp2_with fail
            go_ret2
            exact HGo.out _ _ 0 false rfl (.inr ⟨rfl, rfl, HE.out⟩) HB.out
          · obtain ⟨s, hs⟩ : ∃ s, L[j]? = some s := ⟨_, List.getElem?_eq_getElem (by rw [HN.out]; exact hjm)⟩
            obtain ⟨b, rfl, _, hbl, t0, t1, t2, _⟩ := hcell j s hs
            have hok := HW.out.1 s (List.mem_of_getElem? hs)
            have y1 := hok.1
            have y2 := hok.2.1
            have y3 : s.hi ≤ 18446744073709551615 := hok.2.2
            have HX := Lib.hid hs
            clear hcell hs hok t2
            by_cases c3 : s.hi < g
            · have HP2 := Lib.hid (HP.out.skip HX.out (.inl c3))
              go_wp2_with fail
              go_roundw
              case rel => exact ⟨some g, j + 1, by omega, rfl, rfl, by go_num, HS.out, HP2.out, trivial⟩
              case measure => simp [intOf]; omega
            · by_cases c4 : g + (n - 1) < s.lo
              · have HP2 := Lib.hid (HP.out.skip HX.out (.inr c4))
                go_wp2_with fail
                go_roundw
                case rel => exact ⟨some g, j + 1, by omega, rfl, rfl, by go_num, HS.out, HP2.out, trivial⟩
                case measure => simp [intOf]; omega
              · by_cases c5 : s.hi = 18446744073709551615
                · have q5 : (s.hi == 18446744073709551615) = true := by simpa using c5
                  have HE := Lib.hid (M.seek_last hit n1 (List.mem_of_getElem? HX.out) HS.out (by omega) (by omega) y2 c5)
                  clear c5
                  go_wp2_with fail
                  go_ret2
                  exact HGo.out _ _ 0 false rfl (.inr ⟨rfl, rfl, HE.out⟩) HB.out
                · have q5 : (s.hi == 18446744073709551615) = false := by simpa using c5
                  have HE := Lib.hid (M.seek_next a1 hit n1 (List.mem_of_getElem? HX.out) HS.out (by omega) (by omega) y2 (by unfold M.top; omega))
                  have HP2 := Lib.hid (HP.out.up HW.out HX.out (by omega) (by omega) a1 (by omega) (by unfold M.top; omega))
                  have hup := fun W => HUp W (s.hi + 1) (by omega) (by omega)
                  have c6 : s.hi ≤ 18446744073709551614 := by omega
                  clear c5 HUp
                  go_wp2_with fail
                  refine (hup _).out.mono ?_
                  rintro e w4 ⟨rfl, rfl⟩
                  go_wp2_with fail
                  go_roundw
                  case rel => exact ⟨_, j + 1, by omega, rfl, rfl, by go_num, HE.out, HP2.out, trivial⟩
                  case measure => simp [intOf]; omega
      · obtain rfl : j = m := by omega
        clear hcell
        by_cases c1 : hi < g
        · have HE := Lib.hid (M.seek_high HS.out (.inl c1))
          go_wp2_with fail
          go_ret2
          exact HGo.out _ _ 0 false rfl (.inr ⟨rfl, rfl, HE.out⟩) HB.out
        · by_cases c2 : hi - g < n - 1
          · have HE := Lib.hid (M.seek_high HS.out (.inr c2))
            go_wp2_with fail
            go_ret2
            exact HGo.out _ _ 0 false rfl (.inr ⟨rfl, rfl, HE.out⟩) HB.out
          · have HE := Lib.hid (show M.Good L hi n g from Past.good (by have h := HP.out; rw [← HN.out] at h; exact h) c1 c2)
            go_wp2_with fail
            go_ret2
            exact HGo.out _ _ g true rfl (.inl ⟨rfl, HS.out.1, HS.out.2.1, HS.out.2.2.2.1, HE.out, HS.out.2.2.2.2⟩) HB.out

set_option maxRecDepth 100000 in
set_option maxHeartbeats 400000 in
theorem rgap_zero (w : World) (p : Nat) (L : List S) (lo hi n a : Int) (h : n = 0 ∨ a = 0) :
    Calls Try.prog 45 #[.pointer (some ⟨p, 0, none⟩), .int .u64 lo, .int .u64 hi, .int .u64 n, .int .u64 a] w (GapOut w L lo hi n a) := by
  have hg : M.GapIs L lo hi n a 0 false := by unfold M.GapIs; rw [if_pos h]; exact ⟨rfl, rfl⟩
  have HG := Lib.hid hg
  have hcase : ((n == 0) = true) ∨ ((n == 0) = false ∧ (a == 0) = true) := by
    by_cases h0 : n = 0
    · exact .inl (by simpa using h0)
    · exact .inr ⟨by simpa using h0, by rcases h with h | h; exact absurd h h0; simpa using h⟩
  clear h hg
  rcases hcase with q | ⟨q, q'⟩
  all_goals
    go_enter Try.func45, Try.ntmps45
    go_wp2_with fail
    go_ret2
    exact ⟨0, false, rfl, HG.out, Below.refl _ _⟩

theorem rgap_calls (w : World) (B p : Nat) (D : List M.Dn) (L : List S) (lo hi n a : Int) (hD : RefAt w B p D) (hDl : D.length ≤ 100000000) (hB0 : B ≤ w.heap.size) (hS : Same L D)
    (hlo : inU lo) (hhi : inU hi) (hn : inU n) (ha : inU a) :
    Calls Try.prog 45 #[.pointer (some ⟨p, 0, none⟩), .int .u64 lo, .int .u64 hi, .int .u64 n, .int .u64 a] w (GapOut w L lo hi n a) := by
  unfold inU M.top at *
  by_cases h : n = 0 ∨ a = 0
  · exact rgap_zero w p L lo hi n a h
  · exact rgap_core w B p D L lo hi n a hD hDl hB0 hS hlo.1 hlo.2 hhi.1 hhi.2 (by omega) hn.2 (by omega) ha.2

set_option maxRecDepth 100000 in
set_option maxHeartbeats 1000000 in
theorem gaps_core (w : World) (A : Option Addr) (m c : Nat) (l : List Opn) (lo hi n a : Int) (hln : l.length = m) (hm : m ≤ 10000000) (hs : Script w A c l)
    (hlo : inU lo) (hhi : inU hi) (hn : inU n) (ha : inU a) :
    Calls Try.prog 8 #[.slice A m c, .int .u64 lo, .int .u64 hi, .int .u64 n, .int .u64 a] w fun e w' => e = .returned (.bool true) ∧ Below w.heap.size w w' := by
  have hL : (play l).length ≤ 1000000000 := by have := play_length hs.2.2.1; omega
  have hDl : (rplay l).length ≤ 100000000 := by have := rplay_length l; omega
  have HM := Lib.hid (made_core w A m c l hln (by omega) hs)
  have HG := fun W pm pr (h : Two w.heap.size w pm pr (play l) (rplay l) W) => Lib.hid (gap_calls W pm (play l) lo hi n a h.map h.same.1 hL hlo hhi hn ha)
  have HR := fun W pm pr (h : Two w.heap.size w pm pr (play l) (rplay l) W) => Lib.hid (rgap_calls W w.heap.size pr (rplay l) (play l) lo hi n a h.ref hDl h.size h.same hlo hhi hn ha)
  clear hln hm hs hL hDl hlo hhi hn ha
  generalize play l = L at *
  generalize rplay l = D at *
  go_enter Try.func8, Try.ntmps8
  go_wp2_with fail
  refine HM.out.mono ?_
  rintro e w1 ⟨pm, pr, rfl, hT⟩
  have HT1 := Lib.hid hT
  clear hT HM
  go_wp2_with fail
  refine (live_calls _).mono ?_
  rintro e w2 ⟨rfl, hb⟩
  have HT2 := Lib.hid (HT1.out.then hb)
  clear hb HT1
  go_wp2_with fail
  refine (HG _ _ _ HT2.out).out.mono ?_
  rintro e w3 ⟨g, ok, rfl, hg, hb⟩
  have HT3 := Lib.hid (HT2.out.then hb)
  have HG1 := Lib.hid hg
  clear hb HT2 hg
  go_wp2_with fail
  refine (HR _ _ _ HT3.out).out.mono ?_
  rintro e w4 ⟨g', ok', rfl, hg, hb⟩
  have HT4 := Lib.hid (HT3.out.then hb)
  obtain ⟨rfl, rfl⟩ := M.gap_one HG1.out hg
  clear hb HT3 hg HG1
  go_wp2_with fail
  go_ret
  exact ⟨by simp, HT4.out.below⟩

end Go.Proofs.Ythkolpjbkbcmbaa
