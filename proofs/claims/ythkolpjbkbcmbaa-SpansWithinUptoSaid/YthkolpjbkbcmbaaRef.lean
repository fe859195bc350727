/- The reference's map in memory; the walks of its Set, Clear and Get. -/
import Derived.Test.YthkolpjbkbcmbaaRefM
import Derived.Test.YthkolpjbkbcmbaaKeys
import Derived.Test.YthkolpjbkbcmbaaSet
set_option linter.unusedVariables false
set_option linter.unusedSimpArgs false
namespace Go.Proofs.Ythkolpjbkbcmbaa
open Go.RowKit

def flatD : List M.Dn → List Value
  | [] => []
  | d :: l => .int .u64 d.lo :: .int .u64 d.hi :: .bool d.has :: .int .i64 d.v :: flatD l

theorem flatD_length (l : List M.Dn) : (flatD l).length = l.length * 4 := by
  induction l with
  | nil => rfl
  | cons s l ih => simp only [flatD, List.length_cons, ih]; omega
theorem flatD_append (l m : List M.Dn) : flatD (l ++ m) = flatD l ++ flatD m := by
  induction l with
  | nil => rfl
  | cons s l ih => simp only [List.cons_append, flatD, ih]
theorem flatD_at (l : List M.Dn) : ∀ (i : Nat) (d : M.Dn), l[i]? = some d → (flatD l)[i * 4]? = some (.int .u64 d.lo) ∧ (flatD l)[i * 4 + 1]? = some (.int .u64 d.hi) ∧ (flatD l)[i * 4 + 2]? = some (.bool d.has) ∧ (flatD l)[i * 4 + 3]? = some (.int .i64 d.v) := by
  induction l with
  | nil => intro i s h; simp at h
  | cons s l ih =>
    intro i t h
    cases i with
    | zero =>
      obtain rfl : s = t := by simpa using h
      exact ⟨rfl, rfl, rfl, rfl⟩
    | succ i =>
      have e : (i + 1) * 4 = i * 4 + 4 := by omega
      have := ih i t (by simpa using h)
      rw [e]
      simpa [flatD] using this

theorem info106 : (Try.prog.info? 106).map (fun i => (i.zero, i.size, i.bytes)) = some (some (.agg #[.int .u64 0, .int .u64 0, .bool false, .int .i64 0]), 4, 32) := by kernel_rfl

/-- The block p is the reference's map, what was done to it is D; it and its row lie from block `B` on. -/
def RefAt (w : World) (B p : Nat) (D : List M.Dn) : Prop :=
  B ≤ p ∧ (∀ d ∈ D, d.ok) ∧ ∃ A c, w.heap[p]? = some (.cells #[.slice A D.length c] 49 (0, 0)) ∧ w.ownsRow B 106 4 (.slice A D.length c) D.length (flatD D)

/-- What a call on the reference's map may turn. -/
structure RGrow (B p : Nat) (w w' : World) : Prop where
  os : w'.os = w.os
  tape : w'.tape = w.tape
  output : w'.output = w.output
  size : w.heap.size ≤ w'.heap.size
  block : ∀ k, k < w.heap.size → k ≠ p → (k < B ∨ ∀ cs fr, w.heap[k]? ≠ some (.cells cs 106 fr)) → w'.heap[k]? = w.heap[k]?

theorem RefAt.lt {w : World} {B p : Nat} {D : List M.Dn} (h : RefAt w B p D) : p < w.heap.size := by
  obtain ⟨_, _, A, c, hp, hr⟩ := h
  exact (Array.getElem?_eq_some_iff.1 hp).1

theorem RGrow.below {B B0 p : Nat} {w0 w w' : World} (h : RGrow B p w w') (hb : Below B0 w0 w) (hB : B0 ≤ B) (hs : B0 ≤ w.heap.size) (hp : B0 ≤ p) : Below B0 w0 w' :=
  hb.trans ⟨h.os, h.tape, h.output, h.size, fun k hk => h.block k (by omega) (by omega) (.inl (by omega))⟩

/-- The program's map is kept by a call on the reference's. -/
theorem RGrow.map {B p : Nat} {w w' : World} {D : List M.Dn} (h : RGrow B p w w') (hr : RefAt w B p D) {base q : Nat} {L : List S} (hM : MapAt w base q L) : MapAt w' base q L := by
  obtain ⟨_, _, _, _, hp, _⟩ := hr
  obtain ⟨A, c, hq, hrow⟩ := hM
  have hql := (Array.getElem?_eq_some_iff.1 hq).1
  have hqp : q ≠ p := by rintro rfl; rw [hp] at hq; injection hq with hq; injection hq with _ hq _; revert hq; decide
  refine ⟨A, c, (h.block q hql hqp (.inr fun cs fr e => ?_)).trans hq, ?_⟩
  · rw [hq] at e; injection e with e; injection e with _ e _; revert e; decide
  · obtain ⟨h1, h2⟩ := hrow
    refine ⟨h1, h2.imp id ?_⟩
    rintro ⟨g, cap, cur, e1, e2, e3, e4⟩
    have hgl := (Array.getElem?_eq_some_iff.1 e3).1
    refine ⟨g, cap, cur, e1, e2, (h.block g hgl ?_ (.inr fun cs fr e => ?_)).trans e3, e4⟩
    · rintro rfl; rw [hp] at e3; injection e3 with e3; injection e3 with _ e3 _; revert e3; decide
    · rw [e3] at e; injection e with e; injection e with _ e _; revert e; decide

/-- The reference's map is kept by a call on the program's. -/
theorem RefAt.grown {B p q : Nat} {w w' : World} {D : List M.Dn} (hr : RefAt w B p D) {base : Nat} {L : List S} (hM : MapAt w base q L) (h : w.grownBy w' (some q)) : RefAt w' B p D := by
  obtain ⟨hB, hD, A, c, hp, hrow⟩ := hr
  obtain ⟨A', c', hq, _⟩ := hM
  have hpl := (Array.getElem?_eq_some_iff.1 hp).1
  have hqp : p ≠ q := by rintro rfl; rw [hp] at hq; injection hq with hq; injection hq with _ hq _; revert hq; decide
  refine ⟨hB, hD, A, c, (h.block p hpl (by intro e; injection e with e; omega)).trans hp, World.ownsRow.kept hrow h ?_⟩
  cases hv : (Value.slice A D.length c).ownBlock with
  | none => exact .inl rfl
  | some b =>
    refine .inr fun e => ?_
    injection e with e
    subst e
    rcases hrow.2 with ⟨h1, _⟩ | ⟨g, cap, cur, h1, _, h3, _⟩
    · rw [h1] at hv; simp [Value.ownBlock] at hv
    · rw [h1] at hv
      simp [Value.ownBlock] at hv
      subst hv
      rw [hq] at h3; injection h3 with h3; injection h3 with _ h3 _; revert h3; decide

theorem RefAt.below {w w' : World} {B p : Nat} {D : List M.Dn} (h : RefAt w B p D) (hb : Below w.heap.size w w') : RefAt w' B p D := by
  obtain ⟨hB, hD, A, c, hp, hr⟩ := h
  refine ⟨hB, hD, A, c, (hb.block p (Array.getElem?_eq_some_iff.1 hp).1).trans hp, hr.kept (row := none) ⟨hb.os, hb.tape, hb.output, hb.size, fun k hk _ => hb.block k hk⟩ ?_⟩
  cases A <;> simp [Value.ownBlock]

/-- What the walk reads of it. -/
theorem RefAt.read {w : World} {B p : Nat} {D : List M.Dn} (h : RefAt w B p D) : ∃ A c, w.cell? ⟨p, 0, none⟩ = some (.slice A D.length c) ∧ w.frozen? ⟨p, 0, none⟩ = false ∧ p < w.heap.size ∧ w.ownsRow B 106 4 (.slice A D.length c) D.length (flatD D) ∧
    ∀ i d, D[i]? = some d → ∃ g, A = some ⟨g, 0, none⟩ ∧ g < w.heap.size ∧ w.cell? ⟨g, i * 4, none⟩ = some (.int .u64 d.lo) ∧ w.cell? ⟨g, i * 4 + 1, none⟩ = some (.int .u64 d.hi) ∧ w.cell? ⟨g, i * 4 + 2, none⟩ = some (.bool d.has) ∧ w.cell? ⟨g, i * 4 + 3, none⟩ = some (.int .i64 d.v) := by
  have hlt := h.lt
  obtain ⟨_, _, A, c, hp, hr⟩ := h
  refine ⟨A, c, by simp [cell_of_row w p 0 _ _ _ hp], by simp [World.frozen?, hp], hlt, hr, fun i s hs => ?_⟩
  have hi : i < D.length := (List.getElem?_eq_some_iff.1 hs).1
  obtain ⟨g, cap, hv, hgb, hgl⟩ := hr.form (by omega)
  injection hv with hA hn hc
  subst hA
  subst hc
  obtain ⟨f0, f1, f2, f3⟩ := flatD_at D i s hs
  refine ⟨g, rfl, hgl, ?_, ?_, ?_, ?_⟩
  · rw [hr.cellAt _ (by omega)]; exact f0
  · rw [hr.cellAt _ (by omega)]; exact f1
  · rw [hr.cellAt _ (by omega)]; exact f2
  · rw [hr.cellAt _ (by omega)]; exact f3

/-- 'append' of one Done: it lies in a block of its own, laid just ahead. -/
theorem app_done {ops : Array Oper} {rest : List Oper} {o : Oper} {a : Act} {Q : Exit → Act → World → Prop} {W : World} (base : Nat) (hgd : o.guard = none) (s x : Operand)
    (ho : o.op = .call { callee := .builtin .append, args := #[s, x], argTypes := #[47, 47] })
    (v : Value) (l : List M.Dn) (y : M.Dn) (hs : a.eval s = v) {H : Nat} (hx : a.eval x = .slice (some ⟨H, 0, none⟩) 1 1) (hH : W.heap.size = H)
    (HO : W.ownsRow base 106 4 v l.length (flatD l)) (hl : l.length ≤ 2000000000) (hbase : base ≤ W.heap.size)
    (h : ∀ v' w', w'.ownsRow base 106 4 v' (l ++ [y]).length (flatD (l ++ [y])) → W.grownBy w' v.ownBlock → wpList Try.prog ops Q rest (a.put o.dst v') w') :
    wpList Try.prog ops Q (o :: rest) a (W.alloc (.cells #[.int .u64 y.lo, .int .u64 y.hi, .bool y.has, .int .i64 y.v] 106)) := by
  subst hH
  obtain ⟨i0, hi, hz0, hz1, hz2⟩ := info_parts info106
  refine wpList_append_own_at (W.alloc _) hgd s x 47 ho base 106 i0 _ 4 32 Try.underlying47 hi hz0 hz1 hz2 rfl (by omega) v l.length (flatD l) hs (World.ownsRow.alloc HO _) ⟨W.heap.size, 0, none⟩ 1 1
    [.int .u64 y.lo, .int .u64 y.hi, .bool y.has, .int .i64 y.v] hx rfl (World.news_of_block (cs := #[.int .u64 y.lo, .int .u64 y.hi, .bool y.has, .int .i64 y.v]) (t := 106) (fr := (0, 0)) (heap_alloc_new W _))
    (by simp [Value.oneCell']) (by simp only [maxLen]; omega) (by omega) (by simp; omega) ?_
  intro v1 w1 hown hg _ hat
  refine h v1 w1 ?_ (grown_alloc hg)
  rw [flatD_append, List.length_append]
  exact hown

/-- Behind the append: the map's cell reads as it did. -/
theorem RefAt.mid {w w1 : World} {B p : Nat} {D : List M.Dn} (h : RefAt w B p D) {A : Option Addr} {c : Nat} (hc : w.cell? ⟨p, 0, none⟩ = some (.slice A D.length c)) (hg : w.grownBy w1 (Value.slice A D.length c).ownBlock) :
    w1.heap[p]? = some (.cells #[.slice A D.length c] 49 (0, 0)) ∧ ∀ b, (Value.slice A D.length c).ownBlock = some b → B ≤ b ∧ ∃ cs, w.heap[b]? = some (.cells cs 106 (0, 0)) := by
  obtain ⟨hB, hD, A', c', hp, hrow⟩ := h
  have e : w.cell? ⟨p, 0, none⟩ = some (.slice A' D.length c') := by simp [cell_of_row w p 0 _ _ _ hp]
  rw [e] at hc
  injection hc with hc
  injection hc with h1 _ h2
  subst h1; subst h2
  have hb : ∀ b, (Value.slice A' D.length c').ownBlock = some b → B ≤ b ∧ ∃ cs, w.heap[b]? = some (.cells cs 106 (0, 0)) := by
    intro b hv
    rcases hrow.2 with ⟨h1, _⟩ | ⟨g, cap, cur, h1, h2, h3, _⟩
    · rw [h1] at hv; simp [Value.ownBlock] at hv
    · rw [h1] at hv
      simp [Value.ownBlock] at hv
      subst hv
      exact ⟨h2, _, h3⟩
  refine ⟨(hg.block p (Array.getElem?_eq_some_iff.1 hp).1 fun e => ?_).trans hp, hb⟩
  obtain ⟨_, cs, h3⟩ := hb p e.symm
  rw [hp] at h3; injection h3 with h3; injection h3 with _ h3 _; revert h3; decide

theorem RefAt.laid {w w1 : World} {B p : Nat} {D D' : List M.Dn} (h : RefAt w B p D) {A : Option Addr} {c : Nat} (hc : w.cell? ⟨p, 0, none⟩ = some (.slice A D.length c)) (hg : w.grownBy w1 (Value.slice A D.length c).ownBlock)
    {v : Value} (hr : w1.ownsRow B 106 4 v D'.length (flatD D')) (hD' : ∀ d ∈ D', d.ok) : RefAt (w1.setCell ⟨p, 0, none⟩ v) B p D' ∧ RGrow B p w (w1.setCell ⟨p, 0, none⟩ v) := by
  obtain ⟨hm, hb⟩ := h.mid hc hg
  have hlt := h.lt
  obtain ⟨A', c', rfl⟩ := own_slice hr
  have hg2 : w1.grownBy (w1.setCell ⟨p, 0, none⟩ (.slice A' D'.length c')) (some p) :=
    ⟨rfl, rfl, rfl, by simp [World.setCell], fun k _ hk => Below.heap_setCell _ _ _ _ (fun e => hk (by rw [e]))⟩
  have hne : (Value.slice A' D'.length c').ownBlock = none ∨ (Value.slice A' D'.length c').ownBlock ≠ some p := by
    cases hv : (Value.slice A' D'.length c').ownBlock with
    | none => exact .inl rfl
    | some b =>
      refine .inr fun e => ?_
      injection e with e
      subst e
      rcases hr.2 with ⟨h1, _⟩ | ⟨g, cap, cur, h1, _, h3, _⟩
      · rw [h1] at hv; simp [Value.ownBlock] at hv
      · rw [h1] at hv
        simp [Value.ownBlock] at hv
        subst hv
        rw [hm] at h3; injection h3 with h3; injection h3 with _ h3 _; revert h3; decide
  refine ⟨⟨h.1, hD', A', c', ?_, World.ownsRow.kept hr hg2 hne⟩, ⟨hg.os, hg.tape, hg.output, Nat.le_trans hg.size hg2.size, fun k hk hkp hkt => ?_⟩⟩
  · have := heap_setCell_same w1 p 0 _ 49 (.slice A' D'.length c') hm
    simpa using this
  · refine (hg2.block k (Nat.lt_of_lt_of_le hk hg.size) (by intro e; injection e with e; omega)).trans (hg.block k hk fun e => ?_)
    obtain ⟨b1, cs, b2⟩ := hb k e.symm
    rcases hkt with h1 | h1
    · omega
    · exact h1 _ _ b2

set_option maxHeartbeats 400000 in
theorem rset_bad (w : World) (p : Nat) (lo hi v : Int) (h : hi < lo) : Calls Try.prog 25 #[.pointer (some ⟨p, 0, none⟩), .int .u64 lo, .int .u64 hi, .int .i64 v] w fun e w' => e = .returned (.int .i64 20) ∧ w = w' := by
  go_enter Try.func25, Try.ntmps25
  go_wp2_with fail
  go_ret
  exact ⟨rfl, rfl⟩
set_option maxHeartbeats 400000 in
theorem rclear_bad (w : World) (p : Nat) (lo hi : Int) (h : hi < lo) : Calls Try.prog 27 #[.pointer (some ⟨p, 0, none⟩), .int .u64 lo, .int .u64 hi] w fun e w' => e = .returned (.int .i64 20) ∧ w = w' := by
  go_enter Try.func27, Try.ntmps27
  go_wp2_with fail
  go_ret
  exact ⟨rfl, rfl⟩

set_option maxHeartbeats 400000 in
theorem rset_ok (w : World) (B p : Nat) (D : List M.Dn) (lo hi v : Int) (hR : RefAt w B p D) (hn : D.length ≤ 1000000000) (h0 : 0 ≤ lo) (hlh : lo ≤ hi) (ht : hi ≤ M.top) :
    Calls Try.prog 25 #[.pointer (some ⟨p, 0, none⟩), .int .u64 lo, .int .u64 hi, .int .i64 v] w fun e w' => e = .returned (.int .i64 0) ∧ RefAt w' B p (D ++ [⟨lo, hi, true, v⟩]) ∧ RGrow B p w w' := by
  have HR := Lib.hid hR
  have hBp := hR.1
  obtain ⟨A, c, hc, hf, hlt, hown, _⟩ := hR.read
  have HC := Lib.hid hc
  have hD' : ∀ d ∈ D ++ [(⟨lo, hi, true, v⟩ : M.Dn)], d.ok := by
    intro d hd
    rcases List.mem_append.1 hd with h | h
    · exact hR.2.1 d h
    · rw [List.mem_singleton.1 h]; exact ⟨h0, hlh, ht, by simp⟩
  have HD := Lib.hid hD'
  clear hR hD' ht h0
  go_enter Try.func25, Try.ntmps25
  go_wp2_with (at_builtin; (refine app_done B rfl (.tmp 16) (.tmp 21) rfl _ D ⟨lo, hi, true, v⟩ rfl rfl (by simp) hown (by omega) (by omega) ?_); intro v' w1 hr hg; obtain ⟨A2, c2, hv2⟩ := own_slice hr; subst hv2; have hm := (HR.out.mid HC.out hg).1; have m0 : w1.cell? ⟨p, 0, none⟩ = some (.slice A D.length c) := (by simp [cell_of_row w1 p 0 _ _ _ hm]); have m1 : w1.frozen? ⟨p, 0, none⟩ = false := (by simp [World.frozen?, hm]); have HL := Lib.hid (HR.out.laid HC.out hg hr HD.out); clear hm hr hg)
  go_ret
  exact ⟨rfl, by have h := HL.out; simp only [List.length_append, List.length_cons, List.length_nil] at h; exact h⟩

set_option maxHeartbeats 400000 in
theorem rclear_ok (w : World) (B p : Nat) (D : List M.Dn) (lo hi : Int) (hR : RefAt w B p D) (hn : D.length ≤ 1000000000) (h0 : 0 ≤ lo) (hlh : lo ≤ hi) (ht : hi ≤ M.top) :
    Calls Try.prog 27 #[.pointer (some ⟨p, 0, none⟩), .int .u64 lo, .int .u64 hi] w fun e w' => e = .returned (.int .i64 0) ∧ RefAt w' B p (D ++ [⟨lo, hi, false, 0⟩]) ∧ RGrow B p w w' := by
  have HR := Lib.hid hR
  have hBp := hR.1
  obtain ⟨A, c, hc, hf, hlt, hown, _⟩ := hR.read
  have HC := Lib.hid hc
  have hD' : ∀ d ∈ D ++ [(⟨lo, hi, false, 0⟩ : M.Dn)], d.ok := by
    intro d hd
    rcases List.mem_append.1 hd with h | h
    · exact hR.2.1 d h
    · rw [List.mem_singleton.1 h]; exact ⟨h0, hlh, ht, fun _ => rfl⟩
  have HD := Lib.hid hD'
  clear hR hD' ht h0
  go_enter Try.func27, Try.ntmps27
  go_wp2_with (at_builtin; (refine app_done B rfl (.tmp 14) (.tmp 18) rfl _ D ⟨lo, hi, false, 0⟩ rfl rfl (by simp) hown (by omega) (by omega) ?_); intro v' w1 hr hg; obtain ⟨A2, c2, hv2⟩ := own_slice hr; subst hv2; have hm := (HR.out.mid HC.out hg).1; have m0 : w1.cell? ⟨p, 0, none⟩ = some (.slice A D.length c) := (by simp [cell_of_row w1 p 0 _ _ _ hm]); have m1 : w1.frozen? ⟨p, 0, none⟩ = false := (by simp [World.frozen?, hm]); have HL := Lib.hid (HR.out.laid HC.out hg hr HD.out); clear hm hr hg)
  go_ret
  exact ⟨rfl, by have h := HL.out; simp only [List.length_append, List.length_cons, List.length_nil] at h; exact h⟩

/-- What was done, behind one Set (some) or Clear (none). -/
def radd (D : List M.Dn) (lo hi : Int) (o : Option Int) : List M.Dn := if hi < lo then D else D ++ [⟨lo, hi, o.isSome, o.getD 0⟩]

theorem RGrow.refl (B p : Nat) (w : World) : RGrow B p w w := ⟨rfl, rfl, rfl, Nat.le_refl _, fun _ _ _ _ => rfl⟩

theorem rset_calls (w : World) (B p : Nat) (D : List M.Dn) (lo hi v : Int) (hR : RefAt w B p D) (hn : D.length ≤ 1000000000) (h0 : 0 ≤ lo) (ht : hi ≤ M.top) :
    Calls Try.prog 25 #[.pointer (some ⟨p, 0, none⟩), .int .u64 lo, .int .u64 hi, .int .i64 v] w fun e w' => e = .returned (.int .i64 (eno lo hi)) ∧ RefAt w' B p (radd D lo hi (some v)) ∧ RGrow B p w w' := by
  unfold radd eno
  by_cases h : hi < lo
  · rw [if_pos h, if_pos h]
    refine (rset_bad w p lo hi v h).mono ?_
    rintro e w' ⟨rfl, rfl⟩
    exact ⟨rfl, hR, RGrow.refl _ _ _⟩
  · rw [if_neg h, if_neg h]
    exact rset_ok w B p D lo hi v hR hn h0 (by omega) ht
theorem rclear_calls (w : World) (B p : Nat) (D : List M.Dn) (lo hi : Int) (hR : RefAt w B p D) (hn : D.length ≤ 1000000000) (h0 : 0 ≤ lo) (ht : hi ≤ M.top) :
    Calls Try.prog 27 #[.pointer (some ⟨p, 0, none⟩), .int .u64 lo, .int .u64 hi] w fun e w' => e = .returned (.int .i64 (eno lo hi)) ∧ RefAt w' B p (radd D lo hi none) ∧ RGrow B p w w' := by
  unfold radd eno
  by_cases h : hi < lo
  · rw [if_pos h, if_pos h]
    refine (rclear_bad w p lo hi h).mono ?_
    rintro e w' ⟨rfl, rfl⟩
    exact ⟨rfl, hR, RGrow.refl _ _ _⟩
  · rw [if_neg h, if_neg h]
    exact rclear_ok w B p D lo hi hR hn h0 (by omega) ht

theorem RefAt.ok {w : World} {B p : Nat} {D : List M.Dn} (h : RefAt w B p D) : ∀ d ∈ D, d.ok := h.2.1

set_option maxRecDepth 100000 in
set_option maxHeartbeats 1000000 in
/-- Get: the value of a key by what was done. -/
theorem rget_calls (w : World) (B p : Nat) (D : List M.Dn) (k : Int) (hR : RefAt w B p D) (hn : D.length ≤ 1000000000) :
    Calls Try.prog 29 #[.pointer (some ⟨p, 0, none⟩), .int .u64 k] w fun e w' => e = .returned (.tuple #[.int .i64 ((M.fv D k).getD 0), .bool (M.fv D k).isSome]) ∧ Below w.heap.size w w' := by
  obtain ⟨A, c, hc, _, hlt, _, hcell⟩ := hR.read
  have hok := hR.ok
  clear hR
  generalize hln : D.length = n at *
  have HN := Lib.hid hln
  clear hln
  go_enter Try.func29, Try.ntmps29
  go_wp2_with fail
  go_loopw [6] (fun i wr => ∃ z : Int, -1 ≤ z ∧ z < n ∧ i = .int .i64 z ∧ Hid (M.fv (D.take (z + 1).toNat) k = M.fv D k) ∧ Below w.heap.size w wr) (fun i _ => (intOf i + 1).toNat)
  case atStart => exact ⟨(n : Int) - 1, by omega, by omega, rfl, by rw [show ((n : Int) - 1 + 1).toNat = n from by omega, List.take_of_length_le (by rw [HN.out]; exact Nat.le_refl _)]; rfl, Below.refl _ _⟩
  case round =>
    obtain ⟨z, hz1, hz2, rfl, HL, hB⟩ := hrel
    have hBz := hB.size
    have tp := (hB.cell (p := ⟨p, 0, none⟩) hlt).trans hc
    by_cases hz : 0 ≤ z
    · obtain ⟨j, rfl⟩ := Int.eq_ofNat_of_zero_le hz
      obtain ⟨d, hd⟩ : ∃ d, D[j]? = some d := ⟨_, List.getElem?_eq_getElem (by rw [HN.out]; omega)⟩
      obtain ⟨g, rfl, hgl, c0, c1, c2, c3⟩ := hcell j d hd
      have t0 := (hB.cell (p := ⟨g, j * 4, none⟩) hgl).trans c0
      have t1 := (hB.cell (p := ⟨g, j * 4 + 1, none⟩) hgl).trans c1
      have t2 := (hB.cell (p := ⟨g, j * 4 + 2, none⟩) hgl).trans c2
      have t3 := (hB.cell (p := ⟨g, j * 4 + 3, none⟩) hgl).trans c3
      have HS := Lib.hid (show M.fv D k = if d.cov k then d.tell else M.fv (D.take j) k by
        have h := HL.out
        rw [show ((j : Int) + 1).toNat = j + 1 from by omega, M.take_snoc hd, M.fv_snoc] at h
        exact h.symm)
      have hdo := hok d (List.mem_of_getElem? hd)
      clear c0 c1 c2 c3 hd HL
      by_cases hcv : d.cov k
      · have HS2 := Lib.hid (show (Value.int .i64 d.v = .int .i64 ((M.fv D k).getD 0)) ∧ (Value.bool d.has = .bool (M.fv D k).isSome) by
          rw [HS.out, if_pos hcv]
          unfold M.Dn.tell
          have := hdo.2.2.2
          cases hh : d.has with
          | true => simp
          | false => simp [this hh])
        clear HS hdo
        obtain ⟨q1, q2⟩ := hcv
        go_wp2_with fail
        go_quiet (fail)
        go_wp2_with fail
        go_ret2
        exact ⟨by rw [HS2.out.1, HS2.out.2]; rfl, below_drewN (hB.alloc hBz _) _⟩
      · have HS2 := Lib.hid (show M.fv (D.take j) k = M.fv D k by rw [HS.out, if_neg hcv])
        have hcase : k < d.lo ∨ (d.lo ≤ k ∧ d.hi < k) := by unfold M.Dn.cov at hcv; omega
        clear HS hcv hdo
        rcases hcase with q3 | ⟨q3, q4⟩
        all_goals
          go_wp2_with fail
          go_roundw
          case rel => exact ⟨(j : Int) - 1, by omega, by omega, rfl, by rw [show ((j : Int) - 1 + 1).toNat = j from by omega]; exact HS2.out, hB.alloc hBz _⟩
          case measure => simp only [intOf]; omega
    · obtain rfl : z = -1 := by omega
      have HS3 := Lib.hid (show M.fv D k = none by have h := HL.out; simpa [M.fv] using h.symm)
      clear HL hcell
      go_wp2_with fail
      go_ret2
      exact ⟨by rw [HS3.out]; rfl, hB⟩

end Go.Proofs.Ythkolpjbkbcmbaa
