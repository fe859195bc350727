/- What a map of spans is in memory: its words, and what keeps them. -/
import Derived.Test.YthkolpjbkbcmbaaProg
import Derived.Test.YthkolpjbkbcmbaaMath
import Derived.Below
import Derived.Deep.Draws
import Derived.Deep.AppendLies
import Derived.Maps.AppendAt
import Derived.OwnWalk
import Derived.Laws.MakeOwn
import Derived.Laws.OwnMore
import Derived.WalkKit
import Derived.KernelRfl
import Derived.Deep.QuietTactic
import Derived.BigQuiet
import Derived.Lib.Hide
set_option linter.unusedVariables false
set_option linter.unusedSimpArgs false
namespace Go.Proofs.Ythkolpjbkbcmbaa
open Go.RowKit

abbrev S := M.Sp Int
def sv (s : S) : List Value := [.int .u64 s.lo, .int .u64 s.hi, .int .i64 s.v]
def flat : List S → List Value
  | [] => []
  | s :: l => .int .u64 s.lo :: .int .u64 s.hi :: .int .i64 s.v :: flat l

theorem flat_length (l : List S) : (flat l).length = l.length * 3 := by
  induction l with
  | nil => rfl
  | cons s l ih => simp only [flat, List.length_cons, ih]; omega

theorem flat_append (l m : List S) : flat (l ++ m) = flat l ++ flat m := by
  induction l with
  | nil => rfl
  | cons s l ih => simp only [List.cons_append, flat, ih]

theorem flat_at (l : List S) : ∀ (i : Nat) (s : S), l[i]? = some s → (flat l)[i * 3]? = some (.int .u64 s.lo) ∧ (flat l)[i * 3 + 1]? = some (.int .u64 s.hi) ∧ (flat l)[i * 3 + 2]? = some (.int .i64 s.v) := by
  induction l with
  | nil => intro i s h; simp at h
  | cons s l ih =>
    intro i t h
    cases i with
    | zero =>
      obtain rfl : s = t := by simpa using h
      exact ⟨rfl, rfl, rfl⟩
    | succ i =>
      have e : (i + 1) * 3 = i * 3 + 3 := by omega
      have := ih i t (by simpa using h)
      rw [e]
      simpa [flat] using this

/-- The block p is a map that stands just as L says, its row from block `base` on. -/
def MapAt (w : World) (base p : Nat) (L : List S) : Prop :=
  ∃ A c, w.heap[p]? = some (.cells #[.slice A L.length c] 98 (0, 0)) ∧ w.ownsRow base 34 3 (.slice A L.length c) L.length (flat L)

theorem MapAt.alloc {w : World} {base p : Nat} {L : List S} (h : MapAt w base p L) (o : Obj) : MapAt (w.alloc o) base p L := by
  obtain ⟨A, c, hp, hr⟩ := h
  exact ⟨A, c, (Below.heap_alloc w o p (Array.getElem?_eq_some_iff.1 hp).1).trans hp, hr.alloc o⟩
theorem MapAt.drewN {w : World} {base p : Nat} {L : List S} (h : MapAt w base p L) (n : Nat) : MapAt (w.drewN n) base p L := h
/-- Nothing that lay there has turned. -/
theorem MapAt.below {w w' : World} {base p : Nat} {L : List S} (h : MapAt w base p L) (hb : Below w.heap.size w w') : MapAt w' base p L := by
  obtain ⟨A, c, hp, hr⟩ := h
  refine ⟨A, c, (hb.block p (Array.getElem?_eq_some_iff.1 hp).1).trans hp, hr.kept (row := none) ⟨hb.os, hb.tape, hb.output, hb.size, fun k hk _ => hb.block k hk⟩ ?_⟩
  cases A <;> simp [Value.ownBlock]
theorem MapAt.lt {w : World} {base p : Nat} {L : List S} (h : MapAt w base p L) : p < w.heap.size := by
  obtain ⟨A, c, hp, hr⟩ := h
  exact (Array.getElem?_eq_some_iff.1 hp).1
/-- What the walk reads of a map. -/
theorem MapAt.read {w : World} {base p : Nat} {L : List S} (h : MapAt w base p L) : ∃ A c, w.cell? ⟨p, 0, none⟩ = some (.slice A L.length c) ∧ p < w.heap.size ∧
    ∀ i s, L[i]? = some s → ∃ g, A = some ⟨g, 0, none⟩ ∧ g < w.heap.size ∧ L.length ≤ c ∧ w.cell? ⟨g, i * 3, none⟩ = some (.int .u64 s.lo) ∧ w.cell? ⟨g, i * 3 + 1, none⟩ = some (.int .u64 s.hi) ∧ w.cell? ⟨g, i * 3 + 2, none⟩ = some (.int .i64 s.v) := by
  have hlt := h.lt
  obtain ⟨A, c, hp, hr⟩ := h
  refine ⟨A, c, by simp [cell_of_row w p 0 _ _ _ hp], hlt, fun i s hs => ?_⟩
  have hi : i < L.length := (List.getElem?_eq_some_iff.1 hs).1
  obtain ⟨g, cap, hv, hgb, hgl⟩ := hr.form (by omega)
  injection hv with hA hn hc
  subst hA
  subst hc
  obtain ⟨f0, f1, f2⟩ := flat_at L i s hs
  refine ⟨g, rfl, hgl, ?_, ?_, ?_, ?_⟩
  · rcases hr.2 with ⟨h1, _⟩ | ⟨_, _, _, h1, _, _, h2, _⟩
    · cases h1
    · injection h1 with _ _ h1; subst h1; exact h2
  · rw [hr.cellAt _ (by omega)]; exact f0
  · rw [hr.cellAt _ (by omega)]; exact f1
  · rw [hr.cellAt _ (by omega)]; exact f2

theorem below_drewN {B : Nat} {a w : World} (h : Below B a w) (n : Nat) : Below B a (w.drewN n) := ⟨h.os, h.tape, h.output, h.size, h.block⟩
theorem below_then {B : Nat} {w w1 w2 : World} (h : Below B w w1) (hB : B ≤ w1.heap.size) (k : Below w1.heap.size w1 w2) : Below B w w2 :=
  h.trans ⟨k.os, k.tape, k.output, k.size, fun i hi => k.block i (Nat.lt_of_lt_of_le hi hB)⟩

/-- The place of the first span that ends at or above k. -/
def idx (L : List S) (k : Int) : Nat := L.findIdx (fun s => decide (k ≤ s.hi))
theorem idx_le (L : List S) (k : Int) : idx L k ≤ L.length := List.findIdx_le_length
/-- The first span that ends at or above k. -/
def nxt (L : List S) (k : Int) : Option S := L[idx L k]?
theorem nxt_some {L : List S} {k : Int} {s : S} (h : nxt L k = some s) : idx L k < L.length := (List.getElem?_eq_some_iff.1 h).1
theorem nxt_none {L : List S} {k : Int} (h : nxt L k = none) : idx L k = L.length := by
  have h1 : L.length ≤ idx L k := List.getElem?_eq_none_iff.1 h
  have h2 := idx_le L k
  omega
/-- The span in which k lies. -/
def run (L : List S) (k : Int) : Option S := match nxt L k with | some s => if k < s.lo then none else some s | none => none

def zs : S := ⟨0, 0, 0⟩
/-- A span's answer: it and true, or the zero one and false. -/
def sp (o : Option S) : S := o.getD zs

/-- A block that was laid ahead of a call reads behind it as it did. -/
theorem newbox {w w' : World} {cs : Array Value} {t : TypeId} (hb : Below (w.alloc (.cells cs t)).heap.size (w.alloc (.cells cs t)) w') :
    w.heap.size < w'.heap.size ∧ (∀ i u, cs[i]? = some u → w'.cell? ⟨w.heap.size, i, none⟩ = some u) ∧ (∀ i, w'.frozen? ⟨w.heap.size, i, none⟩ = false) := by
  have hs : (w.alloc (.cells cs t)).heap.size = w.heap.size + 1 := by simp
  have h1 : w'.heap[w.heap.size]? = some (.cells cs t (0, 0)) := (hb.block w.heap.size (by omega)).trans (heap_alloc_new w _)
  refine ⟨by have := hb.size; omega, fun i u hu => (cell_of_row w' _ i cs t _ h1).trans hu, fun i => by simp [World.frozen?, h1]⟩

/-! ### Rows of spans -/
def RowAt (w : World) (base : Nat) (v : Value) (l : List S) : Prop := w.ownsRow base 34 3 v l.length (flat l)

theorem info34 : (Try.prog.info? 34).map (fun i => (i.zero, i.size, i.bytes)) = some (some (.agg #[.int .u64 0, .int .u64 0, .int .i64 0]), 3, 24) := by kernel_rfl

theorem grown_alloc {w w' : World} {row : Option Nat} {o : Obj} (h : (w.alloc o).grownBy w' row) : w.grownBy w' row := World.grownBy.trans (World.grownBy_alloc w o row) h
theorem grown_drewN {w w' : World} {row : Option Nat} (h : w.grownBy w' row) (n : Nat) : w.grownBy (w'.drewN n) row := ⟨h.os, h.tape, h.output, h.size, h.block⟩
theorem grown_of_drewN {w w' : World} {row : Option Nat} {n : Nat} (h : (w.drewN n).grownBy w' row) : w.grownBy w' row := ⟨h.os, h.tape, h.output, h.size, h.block⟩
theorem grown_below {w w1 : World} (h : Below w.heap.size w w1) (row : Option Nat) : w.grownBy w1 row := ⟨h.os, h.tape, h.output, h.size, fun i hi _ => h.block i hi⟩
theorem own_slice {w : World} {base n : Nat} {e : TypeId} {size : Nat} {v : Value} {xs : List Value} (h : w.ownsRow base e size v n xs) : ∃ A c, v = .slice A n c := by
  rcases h.2 with ⟨rfl, rfl⟩ | ⟨g, cap, cur, rfl, _⟩
  · exact ⟨none, 0, rfl⟩
  · exact ⟨_, cap, rfl⟩
theorem RowAt.nil (w : World) (base : Nat) : RowAt w base (.slice none 0 0) [] := World.ownsRow_nil w base 34 3
theorem RowAt.alloc {w : World} {base : Nat} {v : Value} {l : List S} (h : RowAt w base v l) (o : Obj) : RowAt (w.alloc o) base v l := World.ownsRow.alloc h o
theorem RowAt.drewN {w : World} {base : Nat} {v : Value} {l : List S} (h : RowAt w base v l) (n : Nat) : RowAt (w.drewN n) base v l := h
theorem RowAt.grown {w w' : World} {base : Nat} {v : Value} {l : List S} (h : RowAt w base v l) {row : Option Nat} (hg : w.grownBy w' row) (hne : v.ownBlock = none ∨ v.ownBlock ≠ row) : RowAt w' base v l := World.ownsRow.kept h hg hne
theorem RowAt.below {w w' : World} {base : Nat} {v : Value} {l : List S} (h : RowAt w base v l) (hb : Below w.heap.size w w') : RowAt w' base v l :=
  h.grown (grown_below hb none) (by cases v.ownBlock <;> simp)
/-- What the walk reads of a row. -/
theorem RowAt.read {w : World} {base : Nat} {v : Value} {l : List S} (h : RowAt w base v l) : ∃ A c, v = .slice A l.length c ∧ l.length ≤ c ∧ c ≤ 9223372036854775807 ∧
    ∀ i s, l[i]? = some s → ∃ g, A = some ⟨g, 0, none⟩ ∧ base ≤ g ∧ g < w.heap.size ∧ w.cell? ⟨g, i * 3, none⟩ = some (.int .u64 s.lo) ∧ w.cell? ⟨g, i * 3 + 1, none⟩ = some (.int .u64 s.hi) ∧ w.cell? ⟨g, i * 3 + 2, none⟩ = some (.int .i64 s.v) ∧
      w.frozen? ⟨g, i * 3 + 1, none⟩ = false := by
  obtain ⟨A, c, rfl⟩ := own_slice h
  have hc : l.length ≤ c ∧ c ≤ 9223372036854775807 := by
    rcases h.2 with ⟨h1, h2⟩ | ⟨_, _, _, h1, _, _, h2, h3, _⟩
    · injection h1 with _ _ h1; omega
    · injection h1 with _ _ h1; subst h1; unfold maxLen at h3; exact ⟨h2, by omega⟩
  refine ⟨A, c, rfl, hc.1, hc.2, fun i s hs => ?_⟩
  have hi : i < l.length := (List.getElem?_eq_some_iff.1 hs).1
  obtain ⟨g, cap, hv, hgb, hgl⟩ := World.ownsRow.form h (by omega)
  injection hv with hA hn hc
  subst hA
  subst hc
  obtain ⟨f0, f1, f2⟩ := flat_at l i s hs
  refine ⟨g, rfl, hgb, hgl, ?_, ?_, ?_, World.ownsRow.frozenAt h _⟩
  · rw [World.ownsRow.cellAt h _ (by omega)]; exact f0
  · rw [World.ownsRow.cellAt h _ (by omega)]; exact f1
  · rw [World.ownsRow.cellAt h _ (by omega)]; exact f2

/-- 'append' of one span: it lies in a block of its own, laid just ahead. -/
theorem app_span {ops : Array Oper} {rest : List Oper} {o : Oper} {a : Act} {Q : Exit → Act → World → Prop} {W : World} (base : Nat) (hgd : o.guard = none) (s x : Operand)
    (ho : o.op = .call { callee := .builtin .append, args := #[s, x], argTypes := #[69, 69] })
    (v : Value) (l : List S) (y : S) (hs : a.eval s = v) {H : Nat} (hx : a.eval x = .slice (some ⟨H, 0, none⟩) 1 1) (hH : W.heap.size = H)
    (HO : RowAt W base v l) (hl : l.length ≤ 2000000000) (hbase : base ≤ W.heap.size)
    (h : ∀ v' w', RowAt w' base v' (l ++ [y]) → W.grownBy w' v.ownBlock → (v'.ownBlock = v.ownBlock ∨ ∃ b, v'.ownBlock = some b ∧ W.heap.size ≤ b) → wpList Try.prog ops Q rest (a.put o.dst v') w') :
    wpList Try.prog ops Q (o :: rest) a (W.alloc (.cells #[.int .u64 y.lo, .int .u64 y.hi, .int .i64 y.v] 34)) := by
  subst hH
  obtain ⟨i0, hi, hz0, hz1, hz2⟩ := info_parts info34
  refine wpList_append_own_at (W.alloc _) hgd s x 69 ho base 34 i0 _ 3 24 Try.underlying69 hi hz0 hz1 hz2 rfl (by omega) v l.length (flat l) hs (World.ownsRow.alloc HO _) ⟨W.heap.size, 0, none⟩ 1 1
    [.int .u64 y.lo, .int .u64 y.hi, .int .i64 y.v] hx rfl (World.news_of_block (cs := #[.int .u64 y.lo, .int .u64 y.hi, .int .i64 y.v]) (t := 34) (fr := (0, 0)) (heap_alloc_new W _))
    (by simp [Value.oneCell']) (by simp only [maxLen]; omega) (by omega) (by simp; omega) ?_
  intro v1 w1 hown hg _ hat
  refine h v1 w1 ?_ (grown_alloc hg) ?_
  · unfold RowAt
    rw [flat_append, List.length_append]
    exact hown
  · rcases hat with hat | hat
    · exact .inl hat
    · exact .inr ⟨_, hat, by simp⟩

/-- The same behind a draw. -/
theorem app_span_d {ops : Array Oper} {rest : List Oper} {o : Oper} {a : Act} {Q : Exit → Act → World → Prop} {W : World} {nd : Nat} (base : Nat) (hgd : o.guard = none) (s x : Operand)
    (ho : o.op = .call { callee := .builtin .append, args := #[s, x], argTypes := #[69, 69] })
    (v : Value) (l : List S) (y : S) (hs : a.eval s = v) {H : Nat} (hx : a.eval x = .slice (some ⟨H, 0, none⟩) 1 1) (hH : W.heap.size = H)
    (HO : RowAt W base v l) (hl : l.length ≤ 2000000000) (hbase : base ≤ W.heap.size)
    (h : ∀ v' w', RowAt w' base v' (l ++ [y]) → W.grownBy w' v.ownBlock → (v'.ownBlock = v.ownBlock ∨ ∃ b, v'.ownBlock = some b ∧ W.heap.size ≤ b) → wpList Try.prog ops Q rest (a.put o.dst v') w') :
    wpList Try.prog ops Q (o :: rest) a ((W.alloc (.cells #[.int .u64 y.lo, .int .u64 y.hi, .int .i64 y.v] 34)).drewN nd) :=
  app_span (W := W.drewN nd) base hgd s x ho v l y hs hx hH (HO.drewN nd) hl hbase fun v' w' h1 h2 h3 => h v' w' h1 (grown_of_drewN h2) h3

end Go.Proofs.Ythkolpjbkbcmbaa
