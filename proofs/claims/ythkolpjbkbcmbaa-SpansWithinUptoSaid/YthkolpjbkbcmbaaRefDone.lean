/- One call on both maps: the walk of done. -/
import Derived.Test.YthkolpjbkbcmbaaRefAsk
import Derived.Test.YthkolpjbkbcmbaaLive
import Derived.Deep.RegionHeld3
set_option linter.unusedVariables false
set_option linter.unusedSimpArgs false
namespace Go.Proofs.Ythkolpjbkbcmbaa
open Go.RowKit

def rstep (D : List M.Dn) (o : Opn) : List M.Dn := if o.kind = 1 then radd D o.lo o.hi (some o.val) else if o.kind = 2 then radd D o.lo o.hi none else D

theorem fv_radd (D : List M.Dn) (lo hi : Int) (o : Option Int) (k : Int) : M.fv (radd D lo hi o) k = if lo ≤ k ∧ k ≤ hi then o else M.fv D k := by
  unfold radd
  by_cases h : hi < lo
  · rw [if_pos h, if_neg (by omega)]
  · rw [if_neg h, M.fv_snoc]
    by_cases hc : lo ≤ k ∧ k ≤ hi
    · rw [if_pos hc, if_pos (show M.Dn.cov ⟨lo, hi, o.isSome, o.getD 0⟩ k from hc)]; cases o <;> rfl
    · rw [if_neg hc, if_neg (show ¬ M.Dn.cov ⟨lo, hi, o.isSome, o.getD 0⟩ k from hc)]

theorem Same.step {L : List S} {D : List M.Dn} {o : Opn} (h : Same L D) (ho : o.ok) : Same (step L o) (rstep D o) := by
  refine ⟨step_wf h.1 ho, fun k u => ?_⟩
  unfold Ythkolpjbkbcmbaa.step rstep
  split
  · rw [put_has _ h.1 ho.1 ho.2.2.2.1, fv_radd, h.2 k u]; split <;> rfl
  · split
    · rw [put_has _ h.1 ho.1 ho.2.2.2.1, fv_radd, h.2 k u]; split <;> rfl
    · exact h.2 k u
theorem rstep_length (D : List M.Dn) (o : Opn) : (rstep D o).length ≤ D.length + 1 := by
  unfold rstep radd
  repeat' split
  all_goals simp

/-- Both maps stand, and say the same; nothing that lay below B has turned since w0. -/
structure Two (B : Nat) (w0 : World) (pm pr : Nat) (L : List S) (D : List M.Dn) (w : World) : Prop where
  map : MapAt w 0 pm L
  ref : RefAt w B pr D
  same : Same L D
  below : Below B w0 w
  size : B ≤ w.heap.size
  pm : B ≤ pm

theorem Two.then {B : Nat} {w0 : World} {pm pr : Nat} {L : List S} {D : List M.Dn} {w w' : World} (h : Two B w0 pm pr L D w) (hb : Below w.heap.size w w') : Two B w0 pm pr L D w' :=
  ⟨h.map.below hb, h.ref.below hb, h.same, below_then h.below h.size hb, by have := hb.size; have := h.size; omega, h.pm⟩

theorem RGrow.box {B p : Nat} {w w' : World} (h : RGrow B p w w') {b : Nat} {cs : Array Value} {t : TypeId} (hb : w.heap[b]? = some (.cells cs t (0, 0))) (hp : b ≠ p) (ht : t ≠ 106) : w'.heap[b]? = some (.cells cs t (0, 0)) :=
  (h.block b (Array.getElem?_eq_some_iff.1 hb).1 hp (.inr fun cs' fr e => by rw [hb] at e; injection e with e; injection e with _ e _; exact ht e)).trans hb
theorem grown_box {w w' : World} {q : Nat} (h : w.grownBy w' (some q)) {b : Nat} {cs : Array Value} {t : TypeId} (hb : w.heap[b]? = some (.cells cs t (0, 0))) (hp : b ≠ q) : w'.heap[b]? = some (.cells cs t (0, 0)) :=
  (h.block b (Array.getElem?_eq_some_iff.1 hb).1 (by intro e; injection e with e; exact hp e)).trans hb
theorem rgrow_of_drewN {B p n : Nat} {w w' : World} (h : RGrow B p (w.drewN n) w') : RGrow B p w w' := ⟨h.os, h.tape, h.output, h.size, h.block⟩
theorem box_cell {w : World} {b : Nat} {cs : Array Value} {t : TypeId} (hb : w.heap[b]? = some (.cells cs t (0, 0))) (i : Nat) : w.cell? ⟨b, i, none⟩ = cs[i]? := by simp [cell_of_row w b i _ _ _ hb]

def agg29 (o : Opn) : Value := .agg #[.int .i64 o.kind, .int .u64 o.lo, .int .u64 o.hi, .int .i64 o.val]

set_option maxRecDepth 100000 in
set_option maxHeartbeats 4000000 in
theorem done_set (w w0 : World) (B pm pr : Nat) (L : List S) (D : List M.Dn) (kind lo hi val : Int) (hT : Two B w0 pm pr L D w) (ho : Opn.ok ⟨kind, lo, hi, val⟩) (hk : kind = 1) (hL : L.length ≤ 500000000) (hD : D.length ≤ 1000000000) :
    Calls Try.prog 54 #[.pointer (some ⟨pm, 0, none⟩), .pointer (some ⟨pr, 0, none⟩), .agg #[.int .i64 kind, .int .u64 lo, .int .u64 hi, .int .i64 val]] w fun e w' => e = .returned (.bool true) ∧ Two B w0 pm pr (step L ⟨kind, lo, hi, val⟩) (rstep D ⟨kind, lo, hi, val⟩) w' := by
  have e1 : step L ⟨kind, lo, hi, val⟩ = put L lo hi (some val) := by unfold step; exact if_pos hk
  have e2 : rstep D ⟨kind, lo, hi, val⟩ = radd D lo hi (some val) := by unfold rstep; exact if_pos hk
  have hS := hT.same.step ho
  rw [e1, e2] at hS ⊢
  have hpml := hT.map.lt
  have hprl := hT.ref.lt
  have q1 : (kind == 1) = true := by simpa using hk
  have H34 := fun W (hM : MapAt W 0 pm L) => Lib.hid (set_calls W pm L lo hi val hM hL hT.same.1 ho.1 ho.2.2.2.1)
  have H25 := fun W (hR : RefAt W B pr D) => Lib.hid (rset_calls W B pr D lo hi val hR hD ho.1 ho.2.2.2.1)
  have HNo := fun W x => Lib.hid (no_calls x W)
  have HS := Lib.hid hS
  have HT := Lib.hid hT
  have hM0 : Hid (MapAt (w.alloc (.cells #[.int .i64 kind, .int .u64 lo, .int .u64 hi, .int .i64 val] 29)) 0 pm L) := hT.map.alloc _
  have hR0 : Hid (RefAt (w.alloc (.cells #[.int .i64 kind, .int .u64 lo, .int .u64 hi, .int .i64 val] 29)) B pr D) := hT.ref.below ((Below.refl _ _).alloc (Nat.le_refl _) _)
  have hB0 : Hid (Below B w0 (w.alloc (.cells #[.int .i64 kind, .int .u64 lo, .int .u64 hi, .int .i64 val] 29))) := hT.below.alloc hT.size _
  have hX0 : Hid ((w.alloc (.cells #[.int .i64 kind, .int .u64 lo, .int .u64 hi, .int .i64 val] 29)).heap[w.heap.size]? = some (.cells #[.int .i64 kind, .int .u64 lo, .int .u64 hi, .int .i64 val] 29 (0, 0))) := heap_alloc_new w _
  clear e1 e2 hS hk ho hL hD hT
  go_enter Try.func54, Try.ntmps54
  have d1 := box_cell hX0.out 1
  have d2 := box_cell hX0.out 2
  have d3 := box_cell hX0.out 3
  have q2 : (eno lo hi == eno lo hi) = true := by simp
  have ne1 : w.heap.size ≠ pm := by omega
  have ne2 : w.heap.size ≠ pr := by omega
  go_wp2_with fail
  go_region_held3 (fun w' => w'.cell? ⟨w.heap.size, 1, none⟩ = some (Value.int IntKind.u64 lo) ∧ w'.cell? ⟨w.heap.size, 2, none⟩ = some (Value.int IntKind.u64 hi) ∧ w'.cell? ⟨w.heap.size, 3, none⟩ = some (Value.int IntKind.i64 val))
    (first | exact ⟨d1, d2, d3⟩ | exact ⟨box_cell hX2 1, box_cell hX2 2, box_cell hX2 3⟩ | exact ⟨box_cell hX3 1, box_cell hX3 2, box_cell hX3 3⟩)
    (first
      | (go_simp; go_at_call 34; refine (H34 _ (by first | exact hM0.out | exact hr3.map hR0.out hM0.out)).out.mono ?_; rintro e w2 ⟨rfl, hM2, hg2'⟩; have hg2 := (by first | exact grown_of_drewN hg2' | exact hg2'); have hX2 := (by first | exact grown_box hg2 hX0.out ne1 | exact grown_box hg2 hX3 ne1); go_simp)
      | (go_simp; go_at_call 25; refine (H25 _ (by first | exact hR0.out | exact hR0.out.grown hM0.out hg2)).out.mono ?_; rintro e w3 ⟨rfl, hR3, hr3'⟩; have hr3 := (by first | exact rgrow_of_drewN hr3' | exact hr3'); have hX3 := (by first | exact hr3.box hX0.out ne2 (by decide) | exact hr3.box hX2 ne2 (by decide)); go_simp)
      | (go_simp; go_at_call 22; refine (HNo _ _).out.mono ?_; rintro e w4 ⟨rfl, rfl⟩; go_simp))
  have hB2 := hB0.out.grown hg2 (by have := HT.out.size; simp; omega) (fun k hk => by injection hk with hk; have := HT.out.pm; omega)
  have hr2 := hR0.out.grown hM0.out hg2
  have hB3 := hr3.below hB2 (Nat.le_refl _) (by have := HT.out.size; have := hg2.size; simp at this; omega) HT.out.ref.1
  have hF : Two B w0 pm pr (put L lo hi (some val)) (radd D lo hi (some val)) w3 := ⟨hr3.map hr2 hM2, hR3, HS.out, hB3, by have := HT.out.size; have := hg2.size; have := hr3.size; simp at *; omega, HT.out.pm⟩
  have HF := Lib.hid hF
  clear hF hB2 hr2 hB3 hM2 hR3 hg2 hr3 hg2' hr3' H34 H25 HNo
  go_wp2_with fail
  go_ret
  exact ⟨rfl, HF.out⟩

set_option maxRecDepth 100000 in
set_option maxHeartbeats 4000000 in
theorem done_clear (w w0 : World) (B pm pr : Nat) (L : List S) (D : List M.Dn) (kind lo hi val : Int) (hT : Two B w0 pm pr L D w) (ho : Opn.ok ⟨kind, lo, hi, val⟩) (hk : kind = 2) (hL : L.length ≤ 500000000) (hD : D.length ≤ 1000000000) :
    Calls Try.prog 54 #[.pointer (some ⟨pm, 0, none⟩), .pointer (some ⟨pr, 0, none⟩), .agg #[.int .i64 kind, .int .u64 lo, .int .u64 hi, .int .i64 val]] w fun e w' => e = .returned (.bool true) ∧ Two B w0 pm pr (step L ⟨kind, lo, hi, val⟩) (rstep D ⟨kind, lo, hi, val⟩) w' := by
  have e1 : step L ⟨kind, lo, hi, val⟩ = put L lo hi none := by unfold step; rw [if_neg (by simp; omega)]; exact if_pos hk
  have e2 : rstep D ⟨kind, lo, hi, val⟩ = radd D lo hi none := by unfold rstep; rw [if_neg (by simp; omega)]; exact if_pos hk
  have hS := hT.same.step ho
  rw [e1, e2] at hS ⊢
  have hpml := hT.map.lt
  have hprl := hT.ref.lt
  have q0 : (kind == 1) = false := by simp; omega
  have q1 : (kind == 2) = true := by simpa using hk
  have H34 := fun W (hM : MapAt W 0 pm L) => Lib.hid (clear_calls W pm L lo hi hM hL hT.same.1 ho.1 ho.2.2.2.1)
  have H25 := fun W (hR : RefAt W B pr D) => Lib.hid (rclear_calls W B pr D lo hi hR hD ho.1 ho.2.2.2.1)
  have HNo := fun W x => Lib.hid (no_calls x W)
  have HS := Lib.hid hS
  have HT := Lib.hid hT
  have hM0 : Hid (MapAt (w.alloc (.cells #[.int .i64 kind, .int .u64 lo, .int .u64 hi, .int .i64 val] 29)) 0 pm L) := hT.map.alloc _
  have hR0 : Hid (RefAt (w.alloc (.cells #[.int .i64 kind, .int .u64 lo, .int .u64 hi, .int .i64 val] 29)) B pr D) := hT.ref.below ((Below.refl _ _).alloc (Nat.le_refl _) _)
  have hB0 : Hid (Below B w0 (w.alloc (.cells #[.int .i64 kind, .int .u64 lo, .int .u64 hi, .int .i64 val] 29))) := hT.below.alloc hT.size _
  have hX0 : Hid ((w.alloc (.cells #[.int .i64 kind, .int .u64 lo, .int .u64 hi, .int .i64 val] 29)).heap[w.heap.size]? = some (.cells #[.int .i64 kind, .int .u64 lo, .int .u64 hi, .int .i64 val] 29 (0, 0))) := heap_alloc_new w _
  clear e1 e2 hS hk ho hL hD hT
  go_enter Try.func54, Try.ntmps54
  have d1 := box_cell hX0.out 1
  have d2 := box_cell hX0.out 2
  have q2 : (eno lo hi == eno lo hi) = true := by simp
  have ne1 : w.heap.size ≠ pm := by omega
  have ne2 : w.heap.size ≠ pr := by omega
  go_wp2_with fail
  go_region_held3 (fun w' => w'.cell? ⟨w.heap.size, 1, none⟩ = some (Value.int IntKind.u64 lo) ∧ w'.cell? ⟨w.heap.size, 2, none⟩ = some (Value.int IntKind.u64 hi))
    (first | exact ⟨d1, d2⟩ | exact ⟨box_cell hX2 1, box_cell hX2 2⟩ | exact ⟨box_cell hX3 1, box_cell hX3 2⟩)
    (first
      | (go_simp; go_at_call 35; refine (H34 _ (by first | exact hM0.out | exact hr3.map hR0.out hM0.out)).out.mono ?_; rintro e w2 ⟨rfl, hM2, hg2'⟩; have hg2 := (by first | exact grown_of_drewN hg2' | exact hg2'); have hX2 := (by first | exact grown_box hg2 hX0.out ne1 | exact grown_box hg2 hX3 ne1); go_simp)
      | (go_simp; go_at_call 27; refine (H25 _ (by first | exact hR0.out | exact hR0.out.grown hM0.out hg2)).out.mono ?_; rintro e w3 ⟨rfl, hR3, hr3'⟩; have hr3 := (by first | exact rgrow_of_drewN hr3' | exact hr3'); have hX3 := (by first | exact hr3.box hX0.out ne2 (by decide) | exact hr3.box hX2 ne2 (by decide)); go_simp)
      | (go_simp; go_at_call 22; refine (HNo _ _).out.mono ?_; rintro e w4 ⟨rfl, rfl⟩; go_simp))
  have hB2 := hB0.out.grown hg2 (by have := HT.out.size; simp; omega) (fun k hk => by injection hk with hk; have := HT.out.pm; omega)
  have hr2 := hR0.out.grown hM0.out hg2
  have hB3 := hr3.below hB2 (Nat.le_refl _) (by have := HT.out.size; have := hg2.size; simp at this; omega) HT.out.ref.1
  have hF : Two B w0 pm pr (put L lo hi none) (radd D lo hi none) w3 := ⟨hr3.map hr2 hM2, hR3, HS.out, hB3, by have := HT.out.size; have := hg2.size; have := hr3.size; simp at *; omega, HT.out.pm⟩
  have HF := Lib.hid hF
  clear hF hB2 hr2 hB3 hM2 hR3 hg2 hr3 hg2' hr3' H34 H25 HNo
  go_wp2_with fail
  go_ret
  exact ⟨rfl, HF.out⟩

set_option maxRecDepth 100000 in
set_option maxHeartbeats 1000000 in
theorem done_other (w w0 : World) (B pm pr : Nat) (L : List S) (D : List M.Dn) (kind lo hi val : Int) (hT : Two B w0 pm pr L D w) (h1 : kind ≠ 1) (h2 : kind ≠ 2) :
    Calls Try.prog 54 #[.pointer (some ⟨pm, 0, none⟩), .pointer (some ⟨pr, 0, none⟩), .agg #[.int .i64 kind, .int .u64 lo, .int .u64 hi, .int .i64 val]] w fun e w' => e = .returned (.bool true) ∧ Two B w0 pm pr (step L ⟨kind, lo, hi, val⟩) (rstep D ⟨kind, lo, hi, val⟩) w' := by
  have e1 : step L ⟨kind, lo, hi, val⟩ = L := by unfold step; rw [if_neg h1, if_neg h2]
  have e2 : rstep D ⟨kind, lo, hi, val⟩ = D := by unfold rstep; rw [if_neg h1, if_neg h2]
  rw [e1, e2]
  have q1 : (kind == 1) = false := by simpa using h1
  have q2 : (kind == 2) = false := by simpa using h2
  have HT := Lib.hid (hT.then ((Below.refl w.heap.size w).alloc (Nat.le_refl _) (.cells #[.int .i64 kind, .int .u64 lo, .int .u64 hi, .int .i64 val] 29)))
  clear hT e1 e2 h1 h2
  go_enter Try.func54, Try.ntmps54
  go_wp2_with fail
  go_ret
  exact ⟨rfl, HT.out⟩

theorem done_calls (w w0 : World) (B pm pr : Nat) (L : List S) (D : List M.Dn) (o : Opn) (hT : Two B w0 pm pr L D w) (ho : o.ok) (hL : L.length ≤ 500000000) (hD : D.length ≤ 1000000000) :
    Calls Try.prog 54 #[.pointer (some ⟨pm, 0, none⟩), .pointer (some ⟨pr, 0, none⟩), agg29 o] w fun e w' => e = .returned (.bool true) ∧ Two B w0 pm pr (step L o) (rstep D o) w' := by
  obtain ⟨kind, lo, hi, val⟩ := o
  by_cases h1 : kind = 1
  · exact done_set w w0 B pm pr L D kind lo hi val hT ho h1 hL hD
  · by_cases h2 : kind = 2
    · exact done_clear w w0 B pm pr L D kind lo hi val hT ho h2 hL hD
    · exact done_other w w0 B pm pr L D kind lo hi val hT h1 h2

end Go.Proofs.Ythkolpjbkbcmbaa
