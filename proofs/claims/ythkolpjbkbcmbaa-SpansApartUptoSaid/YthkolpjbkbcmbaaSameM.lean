/- SpansSame, plainly and in memory: a list of spans turned about; a map laid anew of it. -/
import Derived.Test.YthkolpjbkbcmbaaRooms
set_option linter.unusedVariables false
set_option linter.unusedSimpArgs false
namespace Go.Proofs.Ythkolpjbkbcmbaa
open Go.RowKit

theorem flat_set (l : List S) : ∀ (i : Nat) (s : S), i < l.length → (((flat l).set (i * 3) (.int .u64 s.lo)).set (i * 3 + 1) (.int .u64 s.hi)).set (i * 3 + 2) (.int .i64 s.v) = flat (l.set i s) := by
  induction l with
  | nil => intro i s h; simp at h
  | cons t l ih =>
    intro i s h
    cases i with
    | zero => rfl
    | succ i =>
      have e : (i + 1) * 3 = i * 3 + 3 := by omega
      rw [e, List.set_cons_succ]
      have := ih i s (by simpa using h)
      simp only [flat, List.set_cons_succ, ← this]

/-- A span of a row is written anew. -/
theorem RowAt.put {w : World} {B g n c i : Nat} {P : List S} (s : S) (h : RowAt w B (.slice (some ⟨g, 0, none⟩) n c) P) (hn : P.length = n) (hi : i < n) :
    RowAt (((w.setCell ⟨g, i * 3, none⟩ (.int .u64 s.lo)).setCell ⟨g, i * 3 + 1, none⟩ (.int .u64 s.hi)).setCell ⟨g, i * 3 + 2, none⟩ (.int .i64 s.v)) B (.slice (some ⟨g, 0, none⟩) n c) (P.set i s) ∧
    w.grownBy (((w.setCell ⟨g, i * 3, none⟩ (.int .u64 s.lo)).setCell ⟨g, i * 3 + 1, none⟩ (.int .u64 s.hi)).setCell ⟨g, i * 3 + 2, none⟩ (.int .i64 s.v)) (some g) := by
  subst hn
  have h1 := World.ownsRow.stored h (i * 3) (.int .u64 s.lo)
  have h2 := h1.1.stored (i * 3 + 1) (.int .u64 s.hi)
  have h3 := h2.1.stored (i * 3 + 2) (.int .i64 s.v)
  refine ⟨?_, (h1.2.trans h2.2).trans h3.2⟩
  have := h3.1
  rw [flat_set P i s hi] at this
  unfold RowAt
  simpa using this

/-- Two of a list exchanged: the same are in it. -/
theorem swap_mem {α : Type} {P : List α} {i j : Nat} {s t : α} (hj : P[j]? = some s) (hi : P[i]? = some t) (x : α) : x ∈ (P.set i s).set j t ↔ x ∈ P := by
  obtain ⟨hil, hi'⟩ := List.getElem?_eq_some_iff.1 hi
  obtain ⟨hjl, hj'⟩ := List.getElem?_eq_some_iff.1 hj
  constructor
  · intro h
    rcases List.mem_or_eq_of_mem_set h with h | rfl
    · rcases List.mem_or_eq_of_mem_set h with h | rfl
      · exact h
      · exact List.mem_of_getElem? hj
    · exact List.mem_of_getElem? hi
  · intro h
    obtain ⟨k, hk⟩ := List.getElem?_of_mem h
    by_cases hkj : k = j
    · subst hkj
      rw [hj] at hk
      injection hk with hk
      subst hk
      by_cases hij : i = k
      · subst hij
        rw [hi] at hj
        injection hj with hj
        subst hj
        exact List.mem_of_getElem? (i := i) (by rw [List.getElem?_set_self (by simpa using hil)])
      · exact List.mem_of_getElem? (i := i) (by rw [List.getElem?_set_ne (by omega), List.getElem?_set_self hil])
    · by_cases hki : k = i
      · subst hki
        rw [hi] at hk
        injection hk with hk
        subst hk
        exact List.mem_of_getElem? (i := j) (by rw [List.getElem?_set_self (by simpa using hjl)])
      · exact List.mem_of_getElem? (i := k) (by rw [List.getElem?_set_ne (by omega), List.getElem?_set_ne (by omega)]; exact hk)

theorem mem_has {L P : List S} (h : ∀ x, x ∈ P ↔ x ∈ L) (k v : Int) : M.Has P k v ↔ M.Has L k v := by
  unfold M.Has
  constructor
  · rintro ⟨s, a, b⟩; exact ⟨s, (h s).1 a, b⟩
  · rintro ⟨s, a, b⟩; exact ⟨s, (h s).2 a, b⟩

/-- What stands of a map that is laid of the first i spans of P. -/
def LaidOf (P : List S) (i : Nat) (Q : List S) : Prop := M.WF Q ∧ Q.length ≤ 2 * i ∧ ∀ k v, M.Has Q k v ↔ M.Has (P.take i) k v
theorem LaidOf.start (P : List S) : LaidOf P 0 [] := ⟨M.WF.nil, by simp, fun k v => by simp⟩
theorem LaidOf.next {L P Q : List S} {i : Nat} {s : S} (h : LaidOf P i Q) (hW : M.WF L) (hP : ∀ x, x ∈ P → x ∈ L) (hs : P[i]? = some s) : LaidOf P (i + 1) (put Q s.lo s.hi (some s.v)) := by
  have hsL := hP s (List.mem_of_getElem? hs)
  have hok := hW.1 s hsL
  refine ⟨put_wf _ h.1 hok.1 hok.2.2, by have := put_length (some s.v) h.1 hok.1 hok.2.2 (hi := s.hi); have := h.2.1; omega, fun k v => ?_⟩
  rw [put_has _ h.1 hok.1 hok.2.2, M.take_snoc hs, M.has_append, h.2.2]
  have hone : M.Has [s] k v ↔ s.lo ≤ k ∧ k ≤ s.hi ∧ s.v = v := by rw [M.has_cons]; simp [M.has_nil]
  rw [hone]
  by_cases hc : s.lo ≤ k ∧ k ≤ s.hi
  · rw [if_pos hc]
    constructor
    · intro e; injection e with e; exact .inr ⟨hc.1, hc.2, e⟩
    · rintro (⟨t, ht, a, b, e⟩ | ⟨_, _, e⟩)
      · have htL := hP t (List.mem_of_mem_take ht)
        rw [M.has_one hW (⟨t, htL, a, b, e⟩ : M.Has L k v) (⟨s, hsL, hc.1, hc.2, rfl⟩ : M.Has L k s.v)]
      · rw [e]
  · rw [if_neg hc]
    constructor
    · exact .inl
    · rintro (h | ⟨a, b, _⟩)
      · exact h
      · exact absurd ⟨a, b⟩ hc
theorem LaidOf.all {L P Q : List S} (h : LaidOf P P.length Q) (hW : M.WF L) (hP : ∀ x, x ∈ P ↔ x ∈ L) : Q = L :=
  M.canon h.1 hW fun k v => by rw [h.2.2, List.take_length, mem_has hP]

/-- One key turned: they part there alone. -/
theorem turned {L : List S} (hW : M.WF L) {k x : Int} (h0 : 0 ≤ k) (ht : k ≤ M.top) (hx : val L k ≠ some x) : IsDiff (val L) (val (put L k k (some x))) [⟨k, k, ()⟩] := by
  have hW' := put_wf (lo := k) (hi := k) (some x) hW h0 ht
  have hv : ∀ y, val (put L k k (some x)) y = if y = k then some x else val L y := by
    intro y
    refine opt_same fun v => ?_
    rw [← val_has hW', put_has _ hW h0 ht]
    by_cases hy : y = k
    · rw [if_pos (by omega), if_pos hy]
    · rw [if_neg (by omega), if_neg hy]; exact val_has hW y v
  refine ⟨⟨fun s hs => by rw [List.mem_singleton.1 hs]; exact ⟨h0, Int.le_refl _, ht⟩, by simp⟩, fun y u => ?_⟩
  rw [M.has_cons, hv]
  simp only [M.has_nil, or_false]
  by_cases hy : y = k
  · rw [if_pos hy]
    subst hy
    exact ⟨fun _ => ⟨h0, ht, hx⟩, fun _ => ⟨Int.le_refl _, Int.le_refl _, trivial⟩⟩
  · rw [if_neg hy]
    constructor
    · intro ⟨a, b, _⟩; omega
    · intro ⟨_, _, c⟩; exact absurd rfl c

/-- A map is kept by a call on another. -/
theorem MapAt.other {w w' : World} {p q : Nat} {L Q : List S} (h : MapAt w 0 p L) (hq : MapAt w 0 q Q) (hpq : p ≠ q) (hg : w.grownBy w' (some q)) : MapAt w' 0 p L := by
  obtain ⟨A, c, hp, hr⟩ := h
  obtain ⟨A', c', hq', _⟩ := hq
  have hpl := (Array.getElem?_eq_some_iff.1 hp).1
  refine ⟨A, c, (hg.block p hpl (by intro e; injection e with e; exact hpq e)).trans hp, World.ownsRow.kept hr hg ?_⟩
  cases hv : (Value.slice A L.length c).ownBlock with
  | none => exact .inl rfl
  | some b =>
    refine .inr fun e => ?_
    injection e with e
    subst e
    rcases hr.2 with ⟨h1, _⟩ | ⟨g, cap, cur, h1, _, h3, _⟩
    · rw [h1] at hv; simp [Value.ownBlock] at hv
    · rw [h1] at hv
      simp [Value.ownBlock] at hv
      subst hv
      rw [hq'] at h3; injection h3 with h3; injection h3 with _ h3 _; revert h3; decide
/-- A row of spans is kept by a call on a map. -/
theorem RowAt.other {w w' : World} {B q : Nat} {v : Value} {L Q : List S} (hr : RowAt w B v L) (hq : MapAt w 0 q Q) (hg : w.grownBy w' (some q)) : RowAt w' B v L := by
  obtain ⟨A', c', hq', _⟩ := hq
  refine World.ownsRow.kept hr hg ?_
  cases hv : v.ownBlock with
  | none => exact .inl rfl
  | some b =>
    refine .inr fun e => ?_
    injection e with e
    subst e
    rcases hr.2 with ⟨h1, _⟩ | ⟨g, cap, cur, h1, _, h3, _⟩
    · rw [h1] at hv; simp [Value.ownBlock] at hv
    · rw [h1] at hv
      simp [Value.ownBlock] at hv
      subst hv
      rw [hq'] at h3; injection h3 with h3; injection h3 with _ h3 _; revert h3; decide
/-- A map is kept while a row that is no part of it is written. -/
theorem MapAt.row {w w' : World} {p B g n c : Nat} {L P : List S} (h : MapAt w 0 p L) (hr : RowAt w B (.slice (some ⟨g, 0, none⟩) n c) P) (hg : w.grownBy w' (some g)) (hB : ∀ A c', w.cell? ⟨p, 0, none⟩ = some (.slice A L.length c') → (Value.slice A L.length c').ownBlock ≠ some g) : MapAt w' 0 p L := by
  obtain ⟨A, c', hp, hrow⟩ := h
  have hpl := (Array.getElem?_eq_some_iff.1 hp).1
  have hne : p ≠ g := by
    rintro rfl
    rcases hr.2 with ⟨h1, _⟩ | ⟨g', cap, cur, h1, _, h3, _⟩
    · cases h1
    · injection h1 with h1 _ _; injection h1 with h1; injection h1 with h1 _ _; subst h1
      rw [hp] at h3; injection h3 with h3; injection h3 with _ h3 _; revert h3; decide
  exact ⟨A, c', (hg.block p hpl (by intro e; injection e with e; exact hne e)).trans hp, World.ownsRow.kept hrow hg (.inr (hB A c' (by simp [cell_of_row w p 0 _ _ _ hp])))⟩

end Go.Proofs.Ythkolpjbkbcmbaa
