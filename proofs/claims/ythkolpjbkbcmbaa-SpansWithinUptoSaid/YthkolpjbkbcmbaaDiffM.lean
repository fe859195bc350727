/- Where two maps part, plainly. No Go. -/
import Derived.Test.YthkolpjbkbcmbaaLook
import Derived.Test.YthkolpjbkbcmbaaRefM
set_option linter.unusedVariables false
set_option linter.unusedSimpArgs false
namespace Go.Proofs.Ythkolpjbkbcmbaa

abbrev Rm := M.Sp Unit

/-- A key's value. -/
def val (L : List S) (k : Int) : Option Int := (run L k).map fun s => s.v
theorem val_has {L : List S} (hW : M.WF L) (k v : Int) : M.Has L k v ↔ val L k = some v := by
  unfold val
  rcases key_cases hW k with ⟨s, a, b, c, _⟩ | ⟨a, b, c⟩ | ⟨t, a, b, c, _⟩
  · rw [c]
    constructor
    · intro h; rw [M.has_one hW h a]; rfl
    · intro h; simp at h; rw [← h]; exact a
  · rw [c]; simp [a v]
  · rw [c]; simp [a v]

theorem opt_same {a b : Option Int} (h : ∀ v, a = some v ↔ b = some v) : a = b := by
  cases a with
  | none => cases b with
    | none => rfl
    | some v => exact absurd ((h v).2 rfl) (by simp)
  | some v => exact ((h v).1 rfl).symm

/-- The keys at which two tellings part. -/
def IsDiff (f g : Int → Option Int) (l : List Rm) : Prop := M.WF l ∧ ∀ x u, M.Has l x u ↔ 0 ≤ x ∧ x ≤ M.top ∧ f x ≠ g x
theorem IsDiff.one {f g f' g' : Int → Option Int} {l l' : List Rm} (h : IsDiff f g l) (h' : IsDiff f' g' l') (hf : ∀ x, f x = f' x) (hg : ∀ x, g x = g' x) : l = l' :=
  M.canon h.1 h'.1 fun x u => by rw [h.2, h'.2, hf, hg]
theorem IsDiff.symm {f g : Int → Option Int} {l : List Rm} (h : IsDiff f g l) : IsDiff g f l := ⟨h.1, fun x u => by rw [h.2]; exact ⟨fun ⟨a, b, c⟩ => ⟨a, b, fun e => c e.symm⟩, fun ⟨a, b, c⟩ => ⟨a, b, fun e => c e.symm⟩⟩⟩
theorem IsDiff.nil {f g : Int → Option Int} (h : ∀ x, f x = g x) : IsDiff f g [] := ⟨M.WF.nil, fun x u => by simp [M.has_nil, h]⟩

/-- What stands of a list behind all keys below k. -/
def GotK {V : Type} (f : Int → Option V) (k : Int) (l : List (M.Sp V)) : Prop := M.WF l ∧ (∀ t ∈ l, t.hi < k) ∧ ∀ x v, M.Has l x v ↔ 0 ≤ x ∧ x < k ∧ f x = some v
section
variable {V : Type} {f : Int → Option V} {k last : Int} {l : List (M.Sp V)}
theorem GotK.start : GotK f 0 ([] : List (M.Sp V)) := ⟨M.WF.nil, by simp, fun x v => by simp [M.has_nil]; omega⟩
theorem GotK.skip (h : GotK f k l) (hk : k ≤ last) (hf : ∀ x, k ≤ x → x ≤ last → f x = none) : GotK f (last + 1) l := by
  refine ⟨h.1, fun t ht => by have := h.2.1 t ht; omega, fun x v => ?_⟩
  rw [h.2.2]
  constructor
  · rintro ⟨a, b, c⟩; exact ⟨a, by omega, c⟩
  · rintro ⟨a, b, c⟩
    refine ⟨a, ?_, c⟩
    rcases Int.lt_or_le x k with h1 | h1
    · exact h1
    · rw [hf x h1 (by omega)] at c; cases c
theorem GotK.add [DecidableEq V] (h : GotK f k l) (h0 : 0 ≤ k) (hk : k ≤ last) (ht : last ≤ M.top) {v : V} (hf : ∀ x, k ≤ x → x ≤ last → f x = some v) : GotK f (last + 1) (M.join l ⟨k, last, v⟩) := by
  refine ⟨M.join_wf h.1 ⟨h0, hk, ht⟩ h.2.1, fun t ht => by have := M.join_hi (s := ⟨k, last, v⟩) hk h.2.1 t ht; simp at this; omega, fun x u => ?_⟩
  rw [M.join_has (s := ⟨k, last, v⟩) hk (fun t ht => (h.1.1 t ht).2.1), h.2.2]
  constructor
  · rintro (⟨a, b, c⟩ | ⟨a, b, c⟩)
    · exact ⟨a, by omega, c⟩
    · simp only at a b c
      subst c
      exact ⟨by omega, by omega, hf x a b⟩
  · rintro ⟨a, b, c⟩
    rcases Int.lt_or_le x k with h1 | h1
    · exact .inl ⟨a, h1, c⟩
    · right
      rw [hf x h1 (by omega)] at c
      injection c with c
      exact ⟨h1, by simp; omega, c⟩
end

/-- How many ends of spans lie at or below k. -/
def cnt (L : List S) (k : Int) : Nat := L.countP (fun s => decide (s.lo ≤ k)) + L.countP (fun s => decide (s.hi < k))
theorem cnt_le (L : List S) (k : Int) : cnt L k ≤ 2 * L.length := by
  unfold cnt
  have := List.countP_le_length (p := fun s : S => decide (s.lo ≤ k)) (l := L)
  have := List.countP_le_length (p := fun s : S => decide (s.hi < k)) (l := L)
  omega
theorem countP_le {α : Type} {p q : α → Bool} {l : List α} (h : ∀ x, p x = true → q x = true) : l.countP p ≤ l.countP q := List.countP_mono_left fun x _ => h x
theorem countP_lt {α : Type} {p q : α → Bool} {l : List α} (h : ∀ x, p x = true → q x = true) {x : α} (hx : x ∈ l) (hp : p x = false) (hq : q x = true) : l.countP p < l.countP q := by
  induction l with
  | nil => cases hx
  | cons y l ih =>
    rw [List.countP_cons, List.countP_cons]
    rcases List.mem_cons.1 hx with rfl | hx
    · have := countP_le (l := l) h
      simp [hp, hq]
      omega
    · have := ih hx
      have h1 := h y
      cases hy : p y <;> cases hy' : q y <;> simp [hy, hy'] at * <;> omega
theorem cnt_mono (L : List S) {k k' : Int} (h : k ≤ k') : cnt L k ≤ cnt L k' := by
  unfold cnt
  have := countP_le (l := L) (p := fun s => decide (s.lo ≤ k)) (q := fun s => decide (s.lo ≤ k')) (by simp; omega)
  have := countP_le (l := L) (p := fun s => decide (s.hi < k)) (q := fun s => decide (s.hi < k')) (by simp; omega)
  omega

/-- From k to e the map tells one thing. -/
structure Stretch (L : List S) (k e : Int) : Prop where
  le : k ≤ e
  top : e ≤ M.top
  same : ∀ x, k ≤ x → x ≤ e → val L x = val L k
  more : e = M.top ∨ cnt L k < cnt L (e + 1)

theorem val_none {L : List S} (hW : M.WF L) {k : Int} (h : ∀ v, ¬ M.Has L k v) : val L k = none := by
  cases e : val L k with
  | none => rfl
  | some v => exact absurd ((val_has hW k v).2 e) (h v)

theorem stretch_none {L : List S} (hW : M.WF L) {k : Int} (ht : k ≤ M.top) (h : nxt L k = none) : Stretch L k M.top ∧ val L k = none := by
  have hn : ∀ x, k ≤ x → val L x = none := fun x hx => val_none hW fun v => nxt_none_has hW h x v hx
  exact ⟨⟨ht, Int.le_refl _, fun x hx _ => by rw [hn x hx, hn k (Int.le_refl _)], .inl rfl⟩, hn k (Int.le_refl _)⟩
theorem stretch_gap {L : List S} (hW : M.WF L) {k : Int} {s : S} (h : nxt L k = some s) (hk : k < s.lo) : Stretch L k (s.lo - 1) ∧ val L k = none := by
  have hs := (nxt_some_hi hW h).2
  have hok := hW.1 s hs
  have h1 := hok.1
  have h2 := hok.2.1
  have h3 := hok.2.2
  have hn : ∀ x, k ≤ x → x < s.lo → val L x = none := fun x hx hx' => val_none hW fun v => nxt_some_has hW h x v hx hx'
  refine ⟨⟨by omega, by omega, fun x hx hx' => by rw [hn x hx (by omega), hn k (Int.le_refl _) hk], .inr ?_⟩, hn k (Int.le_refl _) hk⟩
  have e : s.lo - 1 + 1 = s.lo := by omega
  rw [e]
  unfold cnt
  have := countP_lt (l := L) (p := fun t => decide (t.lo ≤ k)) (q := fun t => decide (t.lo ≤ s.lo)) (by simp; omega) hs (by simpa using hk) (by simp)
  have := countP_le (l := L) (p := fun t => decide (t.hi < k)) (q := fun t => decide (t.hi < s.lo)) (by simp; omega)
  omega
theorem stretch_in {L : List S} (hW : M.WF L) {k : Int} {s : S} (h : nxt L k = some s) (hk : ¬ k < s.lo) : Stretch L k s.hi ∧ val L k = some s.v := by
  obtain ⟨h0, hs⟩ := nxt_some_hi hW h
  have hok := hW.1 s hs
  have hv : ∀ x, k ≤ x → x ≤ s.hi → val L x = some s.v := fun x hx hx' => (val_has hW x s.v).1 ⟨s, hs, by omega, hx', rfl⟩
  refine ⟨⟨h0, hok.2.2, fun x hx hx' => by rw [hv x hx hx', hv k (Int.le_refl _) h0], .inr ?_⟩, hv k (Int.le_refl _) h0⟩
  unfold cnt
  have := countP_lt (l := L) (p := fun t => decide (t.hi < k)) (q := fun t => decide (t.hi < s.hi + 1)) (by simp; omega) hs (by simpa using h0) (by simp; omega)
  have := countP_le (l := L) (p := fun t => decide (t.lo ≤ k)) (q := fun t => decide (t.lo ≤ s.hi + 1)) (by simp; omega)
  omega

/-- What two maps tell unlike of a key. -/
def part2 (f g : Int → Option Int) (x : Int) : Option Unit := if f x = g x then none else some ()
theorem GotK.diff {f g : Int → Option Int} {l : List Rm} (h : GotK (part2 f g) (M.top + 1) l) : IsDiff f g l := by
  refine ⟨h.1, fun x u => ?_⟩
  rw [h.2.2]
  unfold part2
  constructor
  · rintro ⟨a, b, c⟩
    refine ⟨a, by omega, fun e => ?_⟩
    rw [if_pos e] at c; cases c
  · rintro ⟨a, b, c⟩
    exact ⟨a, by omega, by rw [if_neg c]⟩

end Go.Proofs.Ythkolpjbkbcmbaa
