/- The reference's map, plainly: what was done, in order; its cuts; the spans laid of them. No Go and no memory. -/
import Derived.Test.YthkolpjbkbcmbaaMath
set_option linter.unusedVariables false
set_option linter.unusedSimpArgs false
namespace Go.Proofs.Ythkolpjbkbcmbaa.M

/-- A Set or a Clear that was done. -/
structure Dn where
  lo : Int
  hi : Int
  has : Bool
  v : Int

def Dn.ok (d : Dn) : Prop := 0 ≤ d.lo ∧ d.lo ≤ d.hi ∧ d.hi ≤ top ∧ (d.has = false → d.v = 0)
def Dn.cov (d : Dn) (k : Int) : Prop := d.lo ≤ k ∧ k ≤ d.hi
instance (d : Dn) (k : Int) : Decidable (d.cov k) := by unfold Dn.cov; infer_instance
def Dn.tell (d : Dn) : Option Int := if d.has = true then some d.v else none
/-- A key's value by what was done. -/
def fv (D : List Dn) (k : Int) : Option Int := D.foldl (fun acc d => if d.cov k then d.tell else acc) none

theorem fv_nil (k : Int) : fv [] k = none := rfl
theorem fv_snoc (D : List Dn) (d : Dn) (k : Int) : fv (D ++ [d]) k = if d.cov k then d.tell else fv D k := by simp [fv]

theorem snoc_rec {α : Type} {P : List α → Prop} (h0 : P []) (h1 : ∀ l x, P l → P (l ++ [x])) (l : List α) : P l := by
  rw [← List.reverse_reverse l]
  generalize l.reverse = r
  induction r with
  | nil => simpa using h0
  | cons x r ih => simpa using h1 _ x ih

theorem fv_in {D : List Dn} (h : ∀ d ∈ D, d.ok) {k v : Int} (hv : fv D k = some v) : 0 ≤ k ∧ k ≤ top := by
  revert h hv
  refine snoc_rec (P := fun D => (∀ d ∈ D, d.ok) → fv D k = some v → 0 ≤ k ∧ k ≤ top) ?_ ?_ D
  · intro _ hv; simp [fv_nil] at hv
  · intro l d ih h hv
    rw [fv_snoc] at hv
    split at hv
    · rename_i hc
      have := h d (by simp)
      unfold Dn.ok at this
      unfold Dn.cov at hc
      omega
    · exact ih (fun x hx => h x (by simp [hx])) hv

/-- Two keys between which nothing begins nor ends have one value. -/
theorem fv_same {D : List Dn} {k k' : Int} (h : ∀ d ∈ D, d.cov k ↔ d.cov k') : fv D k = fv D k' := by
  revert h
  refine snoc_rec (P := fun D => (∀ d ∈ D, d.cov k ↔ d.cov k') → fv D k = fv D k') ?_ ?_ D
  · intro _; rfl
  · intro l d ih h
    rw [fv_snoc, fv_snoc, ih (fun x hx => h x (by simp [hx]))]
    have := h d (by simp)
    by_cases hc : d.cov k
    · rw [if_pos hc, if_pos (this.1 hc)]
    · rw [if_neg hc, if_neg (fun h => hc (this.2 h))]

/-- Rising keys. -/
def Cut (l : List Int) : Prop := l.Pairwise (· < ·)
/-- The keys at which a value can begin. -/
def Marks (D : List Dn) (x : Int) : Prop := ∃ d ∈ D, x = d.lo ∨ (d.hi < top ∧ x = d.hi + 1)

theorem fv_flat {D : List Dn} (hD : ∀ d ∈ D, d.ok) {a k : Int} (hak : a ≤ k) (hk : k ≤ top) (h : ∀ x, Marks D x → x ≤ a ∨ k < x) : fv D a = fv D k := by
  refine fv_same fun d hd => ?_
  have ho := hD d hd
  have h1 := h d.lo ⟨d, hd, .inl rfl⟩
  unfold Dn.ok at ho
  unfold Dn.cov
  by_cases ht : d.hi < top
  · have h2 := h (d.hi + 1) ⟨d, hd, .inr ⟨ht, rfl⟩⟩
    omega
  · omega

/-- Where the piece behind the first i ends. -/
def bnd (C : List Int) (i : Nat) : Int := (C[i]?).getD (top + 1)

theorem Cut.lt {C : List Int} (h : Cut C) {i j : Nat} {x y : Int} (hi : C[i]? = some x) (hj : C[j]? = some y) (hij : i < j) : x < y := by
  obtain ⟨h1, rfl⟩ := List.getElem?_eq_some_iff.1 hi
  obtain ⟨h2, rfl⟩ := List.getElem?_eq_some_iff.1 hj
  exact List.pairwise_iff_getElem.1 h i j h1 h2 hij

theorem Cut.next {C : List Int} (h : Cut C) (hC : ∀ x ∈ C, x ≤ top) {i : Nat} {x : Int} (hi : C[i]? = some x) : x < bnd C (i + 1) ∧ bnd C (i + 1) ≤ top + 1 ∧ ∀ y ∈ C, y ≤ x ∨ bnd C (i + 1) ≤ y := by
  refine ⟨?_, ?_, fun y hy => ?_⟩
  · unfold bnd
    cases hn : C[i + 1]? with
    | none => have := hC x (List.mem_of_getElem? hi); simp; omega
    | some z => exact h.lt hi hn (by omega)
  · unfold bnd
    cases hn : C[i + 1]? with
    | none => simp
    | some z => have := hC z (List.mem_of_getElem? hn); simp; omega
  · obtain ⟨j, hj⟩ := List.getElem?_of_mem hy
    rcases Nat.lt_trichotomy j i with e | e | e
    · have := h.lt hj hi e; omega
    · subst e; rw [hi] at hj; injection hj with hj; omega
    · right
      unfold bnd
      cases hn : C[i + 1]? with
      | none =>
        have h1 := List.getElem?_eq_none_iff.1 hn
        have h2 := (List.getElem?_eq_some_iff.1 hj).1
        omega
      | some z =>
        rcases Nat.lt_or_ge (i + 1) j with e2 | e2
        · have := h.lt hn hj e2; simp; omega
        · obtain rfl : j = i + 1 := by omega
          rw [hn] at hj; injection hj with hj; simp; omega

/-- What stands of the spans behind the first i pieces. -/
def Got {V : Type} (f : Int → Option V) (C : List Int) (i : Nat) (l : List (Sp V)) : Prop :=
  WF l ∧ l.length ≤ i ∧ (∀ t ∈ l, t.hi < bnd C i) ∧ ∀ k v, Has l k v ↔ 0 ≤ k ∧ k < bnd C i ∧ f k = some v

section
variable {V : Type} [DecidableEq V] {f : Int → Option V} {C : List Int} {i : Nat} {l : List (Sp V)} {x : Int}

omit [DecidableEq V] in
theorem Got.start (h0 : C[0]? = some 0) : Got f C 0 [] := by
  refine ⟨WF.nil, by simp, by simp, fun k v => ?_⟩
  have : bnd C 0 = 0 := by unfold bnd; rw [h0]; rfl
  rw [this]
  constructor
  · intro h; exact absurd h (has_nil k v)
  · intro h; omega

omit [DecidableEq V] in
theorem Got.skip (hG : Got f C i l) (hC : Cut C) (hin : ∀ x ∈ C, x ≤ top) (hx : C[i]? = some x) (hf : ∀ k, x ≤ k → k < bnd C (i + 1) → f k = f x) (hn : f x = none) : Got f C (i + 1) l := by
  have hb : bnd C i = x := by unfold bnd; rw [hx]; rfl
  have hc := hC.next hin hx
  refine ⟨hG.1, by have := hG.2.1; omega, fun t ht => by have := hG.2.2.1 t ht; omega, fun k v => ?_⟩
  rw [hG.2.2.2, hb]
  constructor
  · rintro ⟨h1, h2, h3⟩; exact ⟨h1, by omega, h3⟩
  · rintro ⟨h1, h2, h3⟩
    refine ⟨h1, ?_, h3⟩
    rcases Int.lt_or_le k x with h | h
    · exact h
    · rw [hf k h h2, hn] at h3; cases h3

theorem Got.add (hG : Got f C i l) (hC : Cut C) (hin : ∀ x ∈ C, 0 ≤ x ∧ x ≤ top) (hx : C[i]? = some x) (hf : ∀ k, x ≤ k → k < bnd C (i + 1) → f k = f x) {v : V} (hv : f x = some v) :
    Got f C (i + 1) (join l ⟨x, bnd C (i + 1) - 1, v⟩) := by
  have hb : bnd C i = x := by unfold bnd; rw [hx]; rfl
  have hc := hC.next (fun x hx => (hin x hx).2) hx
  have hx0 := hin x (List.mem_of_getElem? hx)
  have hlt : ∀ t ∈ l, t.hi < x := fun t ht => by have := hG.2.2.1 t ht; omega
  refine ⟨join_wf hG.1 ⟨hx0.1, by simp; omega, by simp; omega⟩ hlt, by have := join_length l ⟨x, bnd C (i + 1) - 1, v⟩; have := hG.2.1; omega, fun t ht => ?_, fun k u => ?_⟩
  · have := join_hi (s := ⟨x, bnd C (i + 1) - 1, v⟩) (by simp; omega) hlt t ht
    simp at this
    omega
  · rw [join_has (s := ⟨x, bnd C (i + 1) - 1, v⟩) (by simp; omega) (fun t ht => (hG.1.1 t ht).2.1), hG.2.2.2, hb]
    constructor
    · rintro (⟨h1, h2, h3⟩ | ⟨h1, h2, h3⟩)
      · exact ⟨h1, by omega, h3⟩
      · simp only at h1 h2 h3
        refine ⟨by omega, by omega, ?_⟩
        rw [hf k h1 (by omega), hv, h3]
    · rintro ⟨h1, h2, h3⟩
      rcases Int.lt_or_le k x with h | h
      · exact .inl ⟨h1, h, h3⟩
      · refine .inr ⟨h, by simp; omega, ?_⟩
        rw [hf k h h2, hv] at h3
        simpa using h3
end

theorem Got.all {V : Type} {f : Int → Option V} {C : List Int} {l : List (Sp V)} (hG : Got f C C.length l) (k : Int) (v : V) : Has l k v ↔ 0 ≤ k ∧ k ≤ top ∧ f k = some v := by
  have : bnd C C.length = top + 1 := by unfold bnd; rw [List.getElem?_eq_none (Nat.le_refl _)]; rfl
  rw [hG.2.2.2, this]
  constructor
  · rintro ⟨a, b, c⟩; exact ⟨a, by omega, c⟩
  · rintro ⟨a, b, c⟩; exact ⟨a, by omega, c⟩

end Go.Proofs.Ythkolpjbkbcmbaa.M
