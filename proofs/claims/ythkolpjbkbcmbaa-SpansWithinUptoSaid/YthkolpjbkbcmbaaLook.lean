/- What Next and Run tell of a key; equality of spans. -/
import Derived.Test.YthkolpjbkbcmbaaSaid
import Derived.Test.YthkolpjbkbcmbaaRead
import Derived.Laws.StructEq
set_option linter.unusedVariables false
set_option linter.unusedSimpArgs false
namespace Go.Proofs.Ythkolpjbkbcmbaa
open Go.RowKit

theorem nxt_none_has {L : List S} (hW : M.WF L) {k : Int} (h : nxt L k = none) (k' v : Int) (hk : k ≤ k') : ¬ M.Has L k' v := by
  rintro ⟨s, hs, h1, h2, _⟩
  obtain ⟨i, hi⟩ := List.getElem?_of_mem hs
  have := idx_lo (k := k) (i := i) (by rw [nxt_none h]; exact (List.getElem?_eq_some_iff.1 hi).1) hi
  omega
theorem nxt_some_hi {L : List S} (hW : M.WF L) {k : Int} {s : S} (h : nxt L k = some s) : k ≤ s.hi ∧ s ∈ L :=
  ⟨idx_hi hW (Nat.le_refl _) h, List.mem_of_getElem? h⟩
theorem nxt_some_has {L : List S} (hW : M.WF L) {k : Int} {s : S} (h : nxt L k = some s) (k' v : Int) (hk : k ≤ k') (hk' : k' < s.lo) : ¬ M.Has L k' v := by
  rintro ⟨t, ht, h1, h2, _⟩
  obtain ⟨i, hi⟩ := List.getElem?_of_mem ht
  rcases Nat.lt_trichotomy i (idx L k) with e | e | e
  · have := idx_lo e hi; omega
  · subst e
    have h' : L[idx L k]? = some s := h
    rw [hi] at h'
    injection h' with h'
    subst h'
    omega
  · have := (hW.lt h hi e).1
    have := (hW.1 s (nxt_some_hi hW h).2).2.1
    omega

/-- A key's value, and what Next and Run tell of it. -/
theorem key_cases {L : List S} (hW : M.WF L) (k : Int) :
    (∃ s, M.Has L k s.v ∧ nxt L k = some s ∧ run L k = some s ∧ s.lo ≤ k ∧ k ≤ s.hi) ∨ ((∀ v, ¬ M.Has L k v) ∧ nxt L k = none ∧ run L k = none) ∨ (∃ t, (∀ v, ¬ M.Has L k v) ∧ nxt L k = some t ∧ run L k = none ∧ k < t.lo ∧ k ≤ t.hi) := by
  cases h : nxt L k with
  | none => exact .inr (.inl ⟨fun v => nxt_none_has hW h k v (Int.le_refl _), rfl, by unfold run; rw [h]⟩)
  | some s =>
    obtain ⟨h1, h2⟩ := nxt_some_hi hW h
    by_cases hk : k < s.lo
    · exact .inr (.inr ⟨s, fun v => nxt_some_has hW h k v (Int.le_refl _) hk, rfl, by unfold run; rw [h]; exact if_pos hk, hk, h1⟩)
    · exact .inl ⟨s, ⟨s, h2, by omega, h1, rfl⟩, rfl, by unfold run; rw [h]; exact if_neg hk, by omega, h1⟩

theorem part27 (cs : Array Value) (off : Nat) (v : Value) (h : cs[off]? = some v) (W : World) : (part 27 cs off).run Try.prog W = .ok v W := by
  have h1 : (isAgg 27).run Try.prog W = .ok false W := by as_aux_lemma => kernel_rfl
  simp only [part, Sem.run_bind, h1, Result.andThen_ok, Bool.false_eq_true, if_false, h]
  rfl
theorem part3 (cs : Array Value) (off : Nat) (v : Value) (h : cs[off]? = some v) (W : World) : (part 3 cs off).run Try.prog W = .ok v W := by
  have h1 : (isAgg 3).run Try.prog W = .ok false W := by as_aux_lemma => kernel_rfl
  simp only [part, Sem.run_bind, h1, Result.andThen_ok, Bool.false_eq_true, if_false, h]
  rfl
theorem eqU (d : Nat) (a b : Int) (W : World) : (Op.equalIn (d + 1) 27 (.int .u64 a) (.int .u64 b)).run Try.prog W = .ok (a == b) W := by
  simp [Op.equalIn, run_underlying Try.underlying27]
theorem eqI (d : Nat) (a b : Int) (W : World) : (Op.equalIn (d + 1) 3 (.int .i64 a) (.int .i64 b)).run Try.prog W = .ok (a == b) W := by
  simp [Op.equalIn, run_underlying Try.underlying3]
/-- '==' of two spans of ints. -/
theorem equal34 (a0 a1 a2 b0 b1 b2 : Int) (d : Nat) (W : World) : (Op.equalIn (d + 2) 34 (.agg #[.int .u64 a0, .int .u64 a1, .int .i64 a2]) (.agg #[.int .u64 b0, .int .u64 b1, .int .i64 b2])).run Try.prog W = .ok (a0 == b0 && (a1 == b1 && a2 == b2)) W := by
  have hf : Try.prog.fieldsOf 34 = #[{ name := "Lo", type := 27, offset := 0, embedded := false, tag := "", pkgPath := "", byteOffset := 0 }, { name := "Hi", type := 27, offset := 1, embedded := false, tag := "", pkgPath := "", byteOffset := 8 }, { name := "Val", type := 3, offset := 2, embedded := false, tag := "", pkgPath := "", byteOffset := 16 }] := by
    simp [Program.fieldsOf, Try.underlying34]
  rw [run_equalIn_struct (P := Try.prog) W (d + 1) 34 _ _ (by rw [hf]; exact Try.underlying34) (by kernel_rfl), hf]
  have p0 := part27 #[.int .u64 a0, .int .u64 a1, .int .i64 a2] 0 (.int .u64 a0) rfl W
  have p1 := part27 #[.int .u64 a0, .int .u64 a1, .int .i64 a2] 1 (.int .u64 a1) rfl W
  have p2 := part3 #[.int .u64 a0, .int .u64 a1, .int .i64 a2] 2 (.int .i64 a2) rfl W
  have r0 := part27 #[.int .u64 b0, .int .u64 b1, .int .i64 b2] 0 (.int .u64 b0) rfl W
  have r1 := part27 #[.int .u64 b0, .int .u64 b1, .int .i64 b2] 1 (.int .u64 b1) rfl W
  have r2 := part3 #[.int .u64 b0, .int .u64 b1, .int .i64 b2] 2 (.int .i64 b2) rfl W
  have e0 := eqU d a0 b0 W
  have e1 := eqU d a1 b1 W
  have e2 := eqI d a2 b2 W
  have n0 : ¬ ("Lo" = "_") := by decide
  have n1 : ¬ ("Hi" = "_") := by decide
  have n2 : ¬ ("Val" = "_") := by decide
  simp only [Op.eqFields, ne_eq, n0, n1, n2, not_false_eq_true, if_true, Sem.run_bind, p0, p1, p2, r0, r1, r2, e0, e1, e2, Result.andThen_ok, Sem.run_ite, Sem.run_pure]
  cases (a0 == b0) <;> cases (a1 == b1) <;> cases (a2 == b2) <;> simp
theorem eql34 (a0 a1 a2 b0 b1 b2 : Int) (W : World) : (binOp .eql 34 (.agg #[.int .u64 a0, .int .u64 a1, .int .i64 a2]) (.agg #[.int .u64 b0, .int .u64 b1, .int .i64 b2])).run Try.prog W = .ok (.bool (a0 == b0 && (a1 == b1 && a2 == b2))) W := by
  simp only [binOp]
  simp [Op.equal, Op.maxDepth, equal34 a0 a1 a2 b0 b1 b2 9998]
theorem neq34_same (a b c : Int) (W : World) : (binOp .neq 34 (.agg #[.int .u64 a, .int .u64 b, .int .i64 c]) (.agg #[.int .u64 a, .int .u64 b, .int .i64 c])).run Try.prog W = .ok (.bool false) W := by
  simp only [binOp]
  simp [Op.equal, Op.maxDepth, equal34 a b c a b c 9998]

/-- What said, Get, Run and Next tell of one key, together. -/
theorem key_told {l : List Opn} (ho : ∀ o ∈ l, o.ok) (x : Int) : ∃ (v : Int) (ok : Bool) (r t : S) (tb : Bool),
    (look l x).getD 0 = v ∧ (look l x).isSome = ok ∧ sp (run (play l) x) = r ∧ (run (play l) x).isSome = ok ∧ r.v = v ∧ sp (nxt (play l) x) = t ∧ (nxt (play l) x).isSome = tb ∧
    ((ok = true ∧ tb = true ∧ t = r ∧ r.lo ≤ x ∧ x ≤ r.hi) ∨ (ok = false ∧ tb = false) ∨ (ok = false ∧ tb = true ∧ x < t.lo)) := by
  have hW := play_wf ho
  rcases key_cases hW x with ⟨s, h1, h2, h3, h4, h5⟩ | ⟨h1, h2, h3⟩ | ⟨t, h1, h2, h3, h4, h5⟩
  · have := (play_has ho x s.v).1 h1
    exact ⟨s.v, true, s, s, true, by rw [this]; rfl, by rw [this]; rfl, by rw [h3]; rfl, by rw [h3]; rfl, rfl, by rw [h2]; rfl, by rw [h2]; rfl, .inl ⟨rfl, rfl, rfl, h4, h5⟩⟩
  all_goals
    have hl : look l x = none := by
      cases hl : look l x with
      | none => rfl
      | some v => exact absurd ((play_has ho x v).2 hl) (h1 v)
  · exact ⟨0, false, zs, zs, false, by rw [hl]; rfl, by rw [hl]; rfl, by rw [h3]; rfl, by rw [h3]; rfl, rfl, by rw [h2]; rfl, by rw [h2]; rfl, .inr (.inl ⟨rfl, rfl⟩)⟩
  · exact ⟨0, false, zs, t, true, by rw [hl]; rfl, by rw [hl]; rfl, by rw [h3]; rfl, by rw [h3]; rfl, rfl, by rw [h2]; rfl, by rw [h2]; rfl, .inr (.inr ⟨rfl, rfl, h4⟩)⟩

end Go.Proofs.Ythkolpjbkbcmbaa
