/- What Do's walk is told of worlds and boxes. -/
import Derived.Test.YteakgeplefjncaaClosures
import Derived.Test.YteakgeplefjncaaTable
set_option linter.unusedVariables false
set_option linter.unusedSimpArgs false
namespace Go.Proofs.Yteakgeplefjncaa
open Go.RowKit

theorem table_below (w : World) : Below w.heap.size w (tableW w) := by
  unfold tableW
  refine Below.alloc (Below.alloc (Below.alloc (Below.alloc (Below.alloc (Below.alloc (Below.alloc (Below.alloc (Below.alloc (Below.alloc (Below.alloc (Below.alloc (Below.alloc (Below.refl _ _) ?_ _) ?_ _) ?_ _) ?_ _) ?_ _) ?_ _) ?_ _) ?_ _) ?_ _) ?_ _) ?_ _) ?_ _) ?_ _ <;> simp <;> omega

structure IsTab (w w' : World) : Prop where
  eq : w' = tableW w
theorem operations_tab (w : World) : Calls Try.prog 48 #[] w fun e w' => e = .returned (tableV w.heap.size) ∧ IsTab w w' :=
  (operations_calls w).mono fun _ _ h => ⟨h.1, ⟨h.2⟩⟩
def writes (op : Int) : Bool := decide (op < 9) || decide (12 < op)

theorem alloc_size (v : World) (o : Obj) : (v.alloc o).heap.size = v.heap.size + 1 := by simp
theorem alloc_size' (v : World) (o : Obj) : (v.alloc o).drew.heap.size = v.heap.size + 1 := by simp
theorem drew_size (v : World) : v.drew.heap.size = v.heap.size := rfl
theorem below_undrew {v w3 : World} (h : Below v.drew.heap.size v.drew w3) : Below v.heap.size v w3 := ⟨h.os, h.tape, h.output, h.size, h.block⟩
theorem below_unalloc {v w3 : World} {o : Obj} (h : Below (v.alloc o).heap.size (v.alloc o) w3) : Below v.heap.size v w3 := below_then ((Below.refl _ v).alloc (Nat.le_refl _) _) (by simp) h
theorem below_unboth {v w3 : World} {o : Obj} (h : Below (v.alloc o).drew.heap.size (v.alloc o).drew w3) : Below v.heap.size v w3 := below_unalloc (below_undrew h)
theorem table_of {W w3 : World} (h : IsTab W w3) : Below W.heap.size W w3 := h.eq ▸ table_below W
theorem box4 {v w3 : World} {p : Nat} {x0 x1 x2 x3 : Value} (hp : p < v.heap.size) (hb : Below v.heap.size v w3)
    (h : v.cell? ⟨p, 0, none⟩ = some x0 ∧ v.cell? ⟨p, 1, none⟩ = some x1 ∧ v.cell? ⟨p, 2, none⟩ = some x2 ∧ v.cell? ⟨p, 3, none⟩ = some x3) :
    w3.cell? ⟨p, 0, none⟩ = some x0 ∧ w3.cell? ⟨p, 1, none⟩ = some x1 ∧ w3.cell? ⟨p, 2, none⟩ = some x2 ∧ w3.cell? ⟨p, 3, none⟩ = some x3 :=
  ⟨(hb.cell hp).trans h.1, (hb.cell hp).trans h.2.1, (hb.cell hp).trans h.2.2.1, (hb.cell hp).trans h.2.2.2⟩

/-- A box that holds these flags. -/
def FB (w : World) (p : Nat) (n z c v : Bool) : Prop := w.cell? ⟨p, 0, none⟩ = some (.bool n) ∧ w.cell? ⟨p, 1, none⟩ = some (.bool z) ∧ w.cell? ⟨p, 2, none⟩ = some (.bool c) ∧ w.cell? ⟨p, 3, none⟩ = some (.bool v)
theorem fb_alloc (w : World) (n z c v : Bool) : FB (w.alloc (.cells #[.bool n, .bool z, .bool c, .bool v] 25)) w.heap.size n z c v := ⟨by simp, by simp, by simp, by simp⟩
theorem fb_drew {w : World} {p : Nat} {n z c v : Bool} (h : FB w p n z c v) : FB w.drew p n z c v := h
theorem fb_keep {w w' : World} {p : Nat} {n z c v : Bool} (hp : p < w.heap.size) (hb : Below w.heap.size w w') (h : FB w p n z c v) : FB w' p n z c v := box4 hp hb h
theorem fb_set {w : World} {p : Nat} (h : FB w p false false false false) (n z c v : Bool) :
    FB ((((w.setCell ⟨p, 0, none⟩ (.bool n)).setCell ⟨p, 1, none⟩ (.bool z)).setCell ⟨p, 2, none⟩ (.bool c)).setCell ⟨p, 3, none⟩ (.bool v)) p n z c v := by
  obtain ⟨c0, c1, c2, c3⟩ := h
  exact ⟨by simp [go_sem, c0, c1, c2, c3], by simp [go_sem, c0, c1, c2, c3], by simp [go_sem, c0, c1, c2, c3], by simp [go_sem, c0, c1, c2, c3]⟩
theorem below_set {w0 w : World} {p B : Nat} (h : Below B w0 w) (hp : B ≤ p) (n z c v : Bool) :
    Below B w0 ((((w.setCell ⟨p, 0, none⟩ (.bool n)).setCell ⟨p, 1, none⟩ (.bool z)).setCell ⟨p, 2, none⟩ (.bool c)).setCell ⟨p, 3, none⟩ (.bool v)) :=
  Below.setCell (Below.setCell (Below.setCell (Below.setCell h (p := ⟨p, 0, none⟩) hp _) (p := ⟨p, 1, none⟩) hp _) (p := ⟨p, 2, none⟩) hp _) (p := ⟨p, 3, none⟩) hp _

end Go.Proofs.Yteakgeplefjncaa
