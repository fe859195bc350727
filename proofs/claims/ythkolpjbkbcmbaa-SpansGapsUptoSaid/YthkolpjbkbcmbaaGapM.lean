/- Gaps, plainly: the least multiple at or above a key; the least place for n keys. No Go. -/
import Derived.Test.YthkolpjbkbcmbaaMath
set_option linter.unusedVariables false
set_option linter.unusedSimpArgs false
namespace Go.Proofs.Ythkolpjbkbcmbaa.M

/-- The least multiple of a at or above k among the keys. -/
def upO (k a : Int) : Option Int := if k % a = 0 then some k else if top - (a - k % a) < k then none else some (k + (a - k % a))

theorem mult_ge {k a g : Int} (ha : 1 ≤ a) (hr : k % a ≠ 0) (hg : a ∣ g) (hk : k ≤ g) : k + (a - k % a) ≤ g := by
  obtain ⟨m, rfl⟩ := hg
  have h1 : a * (k / a) + k % a = k := Int.mul_ediv_add_emod k a
  have h2 := Int.emod_nonneg k (show a ≠ 0 by omega)
  rcases Int.lt_or_le (k / a) m with h | h
  · have : a * (k / a + 1) ≤ a * m := Int.mul_le_mul_of_nonneg_left (by omega) (by omega)
    rw [Int.mul_add, Int.mul_one] at this
    omega
  · have : a * m ≤ a * (k / a) := Int.mul_le_mul_of_nonneg_left h (by omega)
    omega

theorem mult_at {k a : Int} : a ∣ k + (a - k % a) := by
  have h1 : a * (k / a) + k % a = k := Int.mul_ediv_add_emod k a
  refine ⟨k / a + 1, ?_⟩
  rw [Int.mul_add, Int.mul_one]
  omega

theorem up_some {k a g : Int} (ha : 1 ≤ a) (h0 : 0 ≤ k) (ht : k ≤ top) (h : upO k a = some g) : a ∣ g ∧ k ≤ g ∧ g ≤ top ∧ ∀ g', a ∣ g' → k ≤ g' → g ≤ g' := by
  unfold upO at h
  split at h
  · rename_i hr
    obtain rfl : k = g := by simpa using h
    exact ⟨Int.dvd_of_emod_eq_zero hr, Int.le_refl _, ht, fun _ _ h => h⟩
  · rename_i hr
    split at h
    · cases h
    · rename_i hlt
      obtain rfl : k + (a - k % a) = g := by simpa using h
      have := Int.emod_lt_of_pos k (show 0 < a by omega)
      exact ⟨mult_at, by omega, by omega, fun g' h1 h2 => mult_ge ha hr h1 h2⟩

theorem up_none {k a : Int} (ha : 1 ≤ a) (h : upO k a = none) (g' : Int) (h1 : a ∣ g') (h2 : k ≤ g') : top < g' := by
  unfold upO at h
  split at h
  · cases h
  · rename_i hr
    split at h
    · rename_i hlt
      have := mult_ge ha hr h1 h2
      omega
    · cases h

/-- The n keys from g on end at or below hi, and none has a value. -/
def Good {V : Type} (L : List (Sp V)) (hi n g : Int) : Prop := g ≤ hi ∧ n - 1 ≤ hi - g ∧ ∀ k v, g ≤ k → k ≤ g + (n - 1) → ¬ Has L k v

/-- What Gap tells. -/
def GapIs {V : Type} (L : List (Sp V)) (lo hi n a : Int) (g : Int) (ok : Bool) : Prop :=
  if n = 0 ∨ a = 0 then g = 0 ∧ ok = false else
  (ok = true ∧ a ∣ g ∧ lo ≤ g ∧ g ≤ top ∧ Good L hi n g ∧ ∀ g', a ∣ g' → lo ≤ g' → g' < g → ¬ Good L hi n g') ∨ (ok = false ∧ g = 0 ∧ ∀ g', a ∣ g' → lo ≤ g' → ¬ Good L hi n g')

theorem gap_one {V : Type} {L : List (Sp V)} {lo hi n a g g' : Int} {ok ok' : Bool} (h : GapIs L lo hi n a g ok) (h' : GapIs L lo hi n a g' ok') : g = g' ∧ ok = ok' := by
  unfold GapIs at h h'
  split at h
  · rename_i hc
    rw [if_pos hc] at h'
    exact ⟨h.1.trans h'.1.symm, h.2.trans h'.2.symm⟩
  · rename_i hc
    rw [if_neg hc] at h'
    rcases h with ⟨rfl, h1, h2, _, h3, h4⟩ | ⟨rfl, rfl, h1⟩ <;> rcases h' with ⟨rfl, k1, k2, _, k3, k4⟩ | ⟨rfl, rfl, k1⟩
    · refine ⟨?_, rfl⟩
      rcases Int.lt_trichotomy g g' with h | h | h
      · exact absurd h3 (k4 g h1 h2 h)
      · exact h
      · exact absurd k3 (h4 g' k1 k2 h)
    · exact absurd h3 (k1 g h1 h2)
    · exact absurd k3 (h1 g' k1 k2)
    · exact ⟨rfl, rfl⟩

/-- The state of a search: no multiple so far would do. -/
def Seek {V : Type} (L : List (Sp V)) (lo hi n a : Int) (o : Option Int) : Prop :=
  match o with
  | some g => a ∣ g ∧ lo ≤ g ∧ 0 ≤ g ∧ g ≤ top ∧ ∀ g', a ∣ g' → lo ≤ g' → g' < g → ¬ Good L hi n g'
  | none => ∀ g', a ∣ g' → lo ≤ g' → ¬ Good L hi n g'

theorem seek_start {V : Type} (L : List (Sp V)) {lo hi n a : Int} (ha : 1 ≤ a) (h0 : 0 ≤ lo) (ht : lo ≤ top) (hh : hi ≤ top) : Seek L lo hi n a (upO lo a) := by
  cases h : upO lo a with
  | none => exact fun g' h1 h2 hg => by have := up_none ha h g' h1 h2; have := hg.1; omega
  | some g =>
    obtain ⟨h1, h2, h3, h4⟩ := up_some ha h0 ht h
    exact ⟨h1, h2, by omega, h3, fun g' q1 q2 q3 => by have := h4 g' q1 q2; omega⟩

/-- A span stands in the way: on behind it. -/
theorem seek_next {V : Type} {L : List (Sp V)} {lo hi n a g : Int} {s : Sp V} (ha : 1 ≤ a) (hh : hi ≤ top) (hn : 1 ≤ n) (hs : s ∈ L) (h : Seek L lo hi n a (some g)) (h1 : s.lo ≤ g + (n - 1)) (h2 : g ≤ s.hi) (h3 : s.lo ≤ s.hi) (h4 : s.hi < top) : Seek L lo hi n a (upO (s.hi + 1) a) := by
  obtain ⟨q1, q2, q3, q4, q5⟩ := h
  have key : ∀ g', a ∣ g' → lo ≤ g' → g' < s.hi + 1 → ¬ Good L hi n g' := by
    intro g' p1 p2 p3
    rcases Int.lt_or_le g' g with h | h
    · exact q5 g' p1 p2 h
    · intro hg
      rcases Int.lt_or_le s.lo g' with h' | h'
      · exact hg.2.2 g' s.v (Int.le_refl _) (by omega) ⟨s, hs, by omega, by omega, rfl⟩
      · exact hg.2.2 s.lo s.v h' (by omega) ⟨s, hs, Int.le_refl _, h3, rfl⟩
  cases h : upO (s.hi + 1) a with
  | none =>
    intro g' p1 p2 hg
    rcases Int.lt_or_le g' (s.hi + 1) with h' | h'
    · exact key g' p1 p2 h' hg
    · have := up_none ha h g' p1 h'
      have := hg.1
      omega
  | some m =>
    obtain ⟨m1, m2, m3, m4⟩ := up_some ha (by omega) (by omega) h
    refine ⟨m1, by omega, by omega, m3, fun g' p1 p2 p3 => ?_⟩
    rcases Int.lt_or_le g' (s.hi + 1) with h' | h'
    · exact key g' p1 p2 h'
    · have := m4 g' p1 h'; omega
/-- A span that ends at the last key stands in the way: there is none. -/
theorem seek_last {V : Type} {L : List (Sp V)} {lo hi n a g : Int} {s : Sp V} (hh : hi ≤ top) (hn : 1 ≤ n) (hs : s ∈ L) (h : Seek L lo hi n a (some g)) (h1 : s.lo ≤ g + (n - 1)) (h2 : g ≤ s.hi) (h3 : s.lo ≤ s.hi) (h4 : s.hi = top) : Seek L lo hi n a none := by
  obtain ⟨q1, q2, q3, q4, q5⟩ := h
  intro g' p1 p2
  rcases Int.lt_or_le g' g with h | h
  · exact q5 g' p1 p2 h
  · intro hg
    have := hg.1
    rcases Int.lt_or_le s.lo g' with h' | h'
    · exact hg.2.2 g' s.v (Int.le_refl _) (by omega) ⟨s, hs, by omega, by omega, rfl⟩
    · exact hg.2.2 s.lo s.v h' (by omega) ⟨s, hs, Int.le_refl _, h3, rfl⟩
/-- Too high already. -/
theorem seek_high {V : Type} {L : List (Sp V)} {lo hi n a g : Int} (h : Seek L lo hi n a (some g)) (hc : hi < g ∨ hi - g < n - 1) : Seek L lo hi n a none := by
  obtain ⟨q1, q2, q3, q4, q5⟩ := h
  intro g' p1 p2
  rcases Int.lt_or_le g' g with h | h
  · exact q5 g' p1 p2 h
  · intro hg
    have h1 := hg.1
    have h2 := hg.2.1
    omega

end Go.Proofs.Ythkolpjbkbcmbaa.M
