/- What a map of spans of Tags is in memory: a Tag is told by the number of which it is made. Printed by mkk.py. -/
import Derived.Test.YthkolpjbkbcmbaaBase
set_option linter.unusedVariables false
set_option linter.unusedSimpArgs false
namespace Go.Proofs.Ythkolpjbkbcmbaa.K
open Go.RowKit

def sv (s : S) : List Value := [.int .u64 s.lo, .int .u64 s.hi, .int .i64 (s.v / 2), .bool (s.v % 2 != 0)]
def flat : List S → List Value
  | [] => []
  | s :: l => .int .u64 s.lo :: .int .u64 s.hi :: .int .i64 (s.v / 2) :: .bool (s.v % 2 != 0) :: flat l

theorem flat_length (l : List S) : (flat l).length = l.length * 4 := by
  induction l with
  | nil => rfl
  | cons s l ih => simp only [flat, List.length_cons, ih]; omega

theorem flat_append (l m : List S) : flat (l ++ m) = flat l ++ flat m := by
  induction l with
  | nil => rfl
  | cons s l ih => simp only [List.cons_append, flat, ih]

theorem flat_at (l : List S) : ∀ (i : Nat) (s : S), l[i]? = some s → (flat l)[i * 4]? = some (.int .u64 s.lo) ∧ (flat l)[i * 4 + 1]? = some (.int .u64 s.hi) ∧ (flat l)[i * 4 + 2]? = some (.int .i64 (s.v / 2)) ∧ (flat l)[i * 4 + 3]? = some (.bool (s.v % 2 != 0)) := by
  induction l with
  | nil => intro i s h; simp at h
  | cons s l ih =>
    intro i t h
    cases i with
    | zero =>
      obtain rfl : s = t := by simpa using h
      exact ⟨rfl, rfl, rfl, rfl⟩
    | succ i =>
      have e : (i + 1) * 4 = i * 4 + 4 := by omega
      have := ih i t (by simpa using h)
      rw [e]
      simpa [flat] using this

/-- The block p is a map that stands just as L says, its row from block `base` on. -/
def MapAt (w : World) (base p : Nat) (L : List S) : Prop :=
  ∃ A c, w.heap[p]? = some (.cells #[.slice A L.length c] 102 (0, 0)) ∧ w.ownsRow base 65 4 (.slice A L.length c) L.length (flat L)

theorem MapAt.alloc {w : World} {base p : Nat} {L : List S} (h : MapAt w base p L) (o : Obj) : MapAt (w.alloc o) base p L := by
  obtain ⟨A, c, hp, hr⟩ := h
  exact ⟨A, c, (Below.heap_alloc w o p (Array.getElem?_eq_some_iff.1 hp).1).trans hp, hr.alloc o⟩
theorem MapAt.drewN {w : World} {base p : Nat} {L : List S} (h : MapAt w base p L) (n : Nat) : MapAt (w.drewN n) base p L := h
/-- Nothing that lay there has turned. -/
theorem MapAt.below {w w' : World} {base p : Nat} {L : List S} (h : MapAt w base p L) (hb : Below w.heap.size w w') : MapAt w' base p L := by
  obtain ⟨A, c, hp, hr⟩ := h
  refine ⟨A, c, (hb.block p (Array.getElem?_eq_some_iff.1 hp).1).trans hp, hr.kept (row := none) ⟨hb.os, hb.tape, hb.output, hb.size, fun k hk _ => hb.block k hk⟩ ?_⟩
  cases A <;> simp [Value.ownBlock]
theorem MapAt.lt {w : World} {base p : Nat} {L : List S} (h : MapAt w base p L) : p < w.heap.size := by
  obtain ⟨A, c, hp, hr⟩ := h
  exact (Array.getElem?_eq_some_iff.1 hp).1
/-- What the walk reads of a map. -/
theorem MapAt.read {w : World} {base p : Nat} {L : List S} (h : MapAt w base p L) : ∃ A c, w.cell? ⟨p, 0, none⟩ = some (.slice A L.length c) ∧ p < w.heap.size ∧
    ∀ i s, L[i]? = some s → ∃ g, A = some ⟨g, 0, none⟩ ∧ g < w.heap.size ∧ L.length ≤ c ∧ w.cell? ⟨g, i * 4, none⟩ = some (.int .u64 s.lo) ∧ w.cell? ⟨g, i * 4 + 1, none⟩ = some (.int .u64 s.hi) ∧ w.cell? ⟨g, i * 4 + 2, none⟩ = some (.int .i64 (s.v / 2)) ∧ w.cell? ⟨g, i * 4 + 3, none⟩ = some (.bool (s.v % 2 != 0)) := by
  have hlt := h.lt
  obtain ⟨A, c, hp, hr⟩ := h
  refine ⟨A, c, by simp [cell_of_row w p 0 _ _ _ hp], hlt, fun i s hs => ?_⟩
  have hi : i < L.length := (List.getElem?_eq_some_iff.1 hs).1
  obtain ⟨g, cap, hv, hgb, hgl⟩ := hr.form (by omega)
  injection hv with hA hn hc
  subst hA
  subst hc
  obtain ⟨f0, f1, f2, f3⟩ := flat_at L i s hs
  refine ⟨g, rfl, hgl, ?_, ?_, ?_, ?_, ?_⟩
  · rcases hr.2 with ⟨h1, _⟩ | ⟨_, _, _, h1, _, _, h2, _⟩
    · cases h1
    · injection h1 with _ _ h1; subst h1; exact h2
  · rw [hr.cellAt _ (by omega)]; exact f0
  · rw [hr.cellAt _ (by omega)]; exact f1
  · rw [hr.cellAt _ (by omega)]; exact f2
  · rw [hr.cellAt _ (by omega)]; exact f3

def RowAt (w : World) (base : Nat) (v : Value) (l : List S) : Prop := w.ownsRow base 65 4 v l.length (flat l)

theorem info65 : (Try.prog.info? 65).map (fun i => (i.zero, i.size, i.bytes)) = some (some (.agg #[.int .u64 0, .int .u64 0, .int .i64 0, .bool false]), 4, 32) := by kernel_rfl

theorem RowAt.nil (w : World) (base : Nat) : RowAt w base (.slice none 0 0) [] := World.ownsRow_nil w base 65 4
theorem RowAt.alloc {w : World} {base : Nat} {v : Value} {l : List S} (h : RowAt w base v l) (o : Obj) : RowAt (w.alloc o) base v l := World.ownsRow.alloc h o
theorem RowAt.drewN {w : World} {base : Nat} {v : Value} {l : List S} (h : RowAt w base v l) (n : Nat) : RowAt (w.drewN n) base v l := h
theorem RowAt.grown {w w' : World} {base : Nat} {v : Value} {l : List S} (h : RowAt w base v l) {row : Option Nat} (hg : w.grownBy w' row) (hne : v.ownBlock = none ∨ v.ownBlock ≠ row) : RowAt w' base v l := World.ownsRow.kept h hg hne
theorem RowAt.below {w w' : World} {base : Nat} {v : Value} {l : List S} (h : RowAt w base v l) (hb : Below w.heap.size w w') : RowAt w' base v l :=
  h.grown (grown_below hb none) (by cases v.ownBlock <;> simp)
/-- What the walk reads of a row. -/
theorem RowAt.read {w : World} {base : Nat} {v : Value} {l : List S} (h : RowAt w base v l) : ∃ A c, v = .slice A l.length c ∧ l.length ≤ c ∧ c ≤ 9223372036854775807 ∧
    ∀ i s, l[i]? = some s → ∃ g, A = some ⟨g, 0, none⟩ ∧ base ≤ g ∧ g < w.heap.size ∧ w.cell? ⟨g, i * 4, none⟩ = some (.int .u64 s.lo) ∧ w.cell? ⟨g, i * 4 + 1, none⟩ = some (.int .u64 s.hi) ∧ w.cell? ⟨g, i * 4 + 2, none⟩ = some (.int .i64 (s.v / 2)) ∧ w.cell? ⟨g, i * 4 + 3, none⟩ = some (.bool (s.v % 2 != 0)) ∧
      w.frozen? ⟨g, i * 4 + 1, none⟩ = false := by
  obtain ⟨A, c, rfl⟩ := own_slice h
  have hc : l.length ≤ c ∧ c ≤ 9223372036854775807 := by
    rcases h.2 with ⟨h1, h2⟩ | ⟨_, _, _, h1, _, _, h2, h3, _⟩
    · injection h1 with _ _ h1; omega
    · injection h1 with _ _ h1; subst h1; unfold maxLen at h3; exact ⟨h2, by omega⟩
  refine ⟨A, c, rfl, hc.1, hc.2, fun i s hs => ?_⟩
  have hi : i < l.length := (List.getElem?_eq_some_iff.1 hs).1
  obtain ⟨g, cap, hv, hgb, hgl⟩ := World.ownsRow.form h (by omega)
  injection hv with hA hn hc
  subst hA
  subst hc
  obtain ⟨f0, f1, f2, f3⟩ := flat_at l i s hs
  refine ⟨g, rfl, hgb, hgl, ?_, ?_, ?_, ?_, World.ownsRow.frozenAt h _⟩
  · rw [World.ownsRow.cellAt h _ (by omega)]; exact f0
  · rw [World.ownsRow.cellAt h _ (by omega)]; exact f1
  · rw [World.ownsRow.cellAt h _ (by omega)]; exact f2
  · rw [World.ownsRow.cellAt h _ (by omega)]; exact f3

/-- 'append' of one span: it lies in a block of its own, laid just ahead. -/
theorem app_span {ops : Array Oper} {rest : List Oper} {o : Oper} {a : Act} {Q : Exit → Act → World → Prop} {W : World} (base : Nat) (hgd : o.guard = none) (s x : Operand)
    (ho : o.op = .call { callee := .builtin .append, args := #[s, x], argTypes := #[59, 59] })
    (v : Value) (l : List S) (y : S) (hs : a.eval s = v) {H : Nat} (hx : a.eval x = .slice (some ⟨H, 0, none⟩) 1 1) (hH : W.heap.size = H)
    (HO : RowAt W base v l) (hl : l.length ≤ 2000000000) (hbase : base ≤ W.heap.size)
    (h : ∀ v' w', RowAt w' base v' (l ++ [y]) → W.grownBy w' v.ownBlock → (v'.ownBlock = v.ownBlock ∨ ∃ b, v'.ownBlock = some b ∧ W.heap.size ≤ b) → wpList Try.prog ops Q rest (a.put o.dst v') w') :
    wpList Try.prog ops Q (o :: rest) a (W.alloc (.cells #[.int .u64 y.lo, .int .u64 y.hi, .int .i64 (y.v / 2), .bool (y.v % 2 != 0)] 65)) := by
  subst hH
  obtain ⟨i0, hi, hz0, hz1, hz2⟩ := info_parts info65
  refine wpList_append_own_at (W.alloc _) hgd s x 59 ho base 65 i0 _ 4 32 Try.underlying59 hi hz0 hz1 hz2 rfl (by omega) v l.length (flat l) hs (World.ownsRow.alloc HO _) ⟨W.heap.size, 0, none⟩ 1 1
    [.int .u64 y.lo, .int .u64 y.hi, .int .i64 (y.v / 2), .bool (y.v % 2 != 0)] hx rfl (World.news_of_block (cs := #[.int .u64 y.lo, .int .u64 y.hi, .int .i64 (y.v / 2), .bool (y.v % 2 != 0)]) (t := 65) (fr := (0, 0)) (heap_alloc_new W _))
    (by simp [Value.oneCell']) (by simp only [maxLen]; omega) (by omega) (by simp; omega) ?_
  intro v1 w1 hown hg _ hat
  refine h v1 w1 ?_ (grown_alloc hg) ?_
  · unfold RowAt
    rw [flat_append, List.length_append]
    exact hown
  · rcases hat with hat | hat
    · exact .inl hat
    · exact .inr ⟨_, hat, by simp⟩

/-- The same behind a draw. -/
theorem app_span_d {ops : Array Oper} {rest : List Oper} {o : Oper} {a : Act} {Q : Exit → Act → World → Prop} {W : World} {nd : Nat} (base : Nat) (hgd : o.guard = none) (s x : Operand)
    (ho : o.op = .call { callee := .builtin .append, args := #[s, x], argTypes := #[59, 59] })
    (v : Value) (l : List S) (y : S) (hs : a.eval s = v) {H : Nat} (hx : a.eval x = .slice (some ⟨H, 0, none⟩) 1 1) (hH : W.heap.size = H)
    (HO : RowAt W base v l) (hl : l.length ≤ 2000000000) (hbase : base ≤ W.heap.size)
    (h : ∀ v' w', RowAt w' base v' (l ++ [y]) → W.grownBy w' v.ownBlock → (v'.ownBlock = v.ownBlock ∨ ∃ b, v'.ownBlock = some b ∧ W.heap.size ≤ b) → wpList Try.prog ops Q rest (a.put o.dst v') w') :
    wpList Try.prog ops Q (o :: rest) a ((W.alloc (.cells #[.int .u64 y.lo, .int .u64 y.hi, .int .i64 (y.v / 2), .bool (y.v % 2 != 0)] 65)).drewN nd) :=
  app_span (W := W.drewN nd) base hgd s x ho v l y hs hx hH (HO.drewN nd) hl hbase fun v' w' h1 h2 h3 => h v' w' h1 (grown_of_drewN h2) h3

end Go.Proofs.Ythkolpjbkbcmbaa.K
