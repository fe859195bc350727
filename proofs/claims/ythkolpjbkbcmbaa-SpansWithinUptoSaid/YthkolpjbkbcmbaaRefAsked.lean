/- One call on both maps, and what both tell: the walk of asked. -/
import Derived.Test.YthkolpjbkbcmbaaRefDone
import Derived.Test.YthkolpjbkbcmbaaList
set_option linter.unusedVariables false
set_option linter.unusedSimpArgs false
namespace Go.Proofs.Ythkolpjbkbcmbaa
open Go.RowKit

theorem Same.get {L : List S} {D : List M.Dn} (h : Same L D) (k : Int) : (M.fv D k).getD 0 = (sp (run L k)).v ∧ (M.fv D k).isSome = (run L k).isSome := by
  rcases key_cases h.1 k with ⟨s, a, b, c, _⟩ | ⟨a, b, c⟩ | ⟨t, a, b, c, _⟩
  · rw [(h.2 k s.v).1 a, c]; exact ⟨rfl, rfl⟩
  all_goals
    have hn : M.fv D k = none := by
      cases hf : M.fv D k with
      | none => rfl
      | some u => exact absurd ((h.2 k u).2 hf) (a u)
    rw [hn, c]
    exact ⟨rfl, rfl⟩

theorem rget_same (w : World) (B p : Nat) (D : List M.Dn) (L : List S) (k : Int) (hR : RefAt w B p D) (hn : D.length ≤ 1000000000) (hS : Same L D) :
    Calls Try.prog 29 #[.pointer (some ⟨p, 0, none⟩), .int .u64 k] w fun e w' => e = .returned (.tuple #[.int .i64 (sp (run L k)).v, .bool (run L k).isSome]) ∧ Below w.heap.size w w' := by
  have h := rget_calls w B p D k hR hn
  rw [(hS.get k).1, (hS.get k).2] at h
  exact h

def Asked (w w0 : World) (B pm pr : Nat) (L : List S) (D : List M.Dn) (kind lo hi val : Int) : Prop :=
  Calls Try.prog 20 #[.pointer (some ⟨pm, 0, none⟩), .pointer (some ⟨pr, 0, none⟩), .agg #[.int .i64 kind, .int .u64 lo, .int .u64 hi, .int .i64 val]] w fun e w' => e = .returned (.bool true) ∧ Two B w0 pm pr (step L ⟨kind, lo, hi, val⟩) (rstep D ⟨kind, lo, hi, val⟩) w'

def box29 (w : World) (kind lo hi val : Int) : World := w.alloc (.cells #[.int .i64 kind, .int .u64 lo, .int .u64 hi, .int .i64 val] 29)

theorem Two.box {B : Nat} {w0 w : World} {pm pr : Nat} {L : List S} {D : List M.Dn} (h : Two B w0 pm pr L D w) (o : Obj) : Two B w0 pm pr L D (w.alloc o) := h.then ((Below.refl _ _).alloc (Nat.le_refl _) _)

theorem ask_same {L : List S} {D : List M.Dn} {kind lo hi val : Int} (h1 : kind ≠ 1) (h2 : kind ≠ 2) : step L ⟨kind, lo, hi, val⟩ = L ∧ rstep D ⟨kind, lo, hi, val⟩ = D :=
  ⟨by unfold step; rw [if_neg h1, if_neg h2], by unfold rstep; rw [if_neg h1, if_neg h2]⟩

set_option maxRecDepth 100000 in
set_option maxHeartbeats 2000000 in
theorem asked_get (w w0 : World) (B pm pr : Nat) (L : List S) (D : List M.Dn) (kind lo hi val : Int) (hT : Two B w0 pm pr L D w) (hk : kind = 3) (hL : L.length ≤ 500000000) (hD : D.length ≤ 100000000) : Asked w w0 B pm pr L D kind lo hi val := by
  obtain ⟨e1, e2⟩ := ask_same (L := L) (D := D) (kind := kind) (lo := lo) (hi := hi) (val := val) (by omega) (by omega)
  unfold Asked
  rw [e1, e2]
  have hTB := hT.box (.cells #[.int .i64 kind, .int .u64 lo, .int .u64 hi, .int .i64 val] 29)
  have H1 := Lib.hid (get_calls _ 0 pm L lo hTB.map hT.same.1 (by omega))
  have H2 := fun W (hR : RefAt W B pr D) => Lib.hid (rget_same W B pr D L lo hR (by omega) hT.same)
  have HT := Lib.hid hTB
  have q3 : (kind == 3) = true := by simpa using hk
  clear e1 e2 hT hTB hk
  go_enter Try.func20, Try.ntmps20
  go_wp2_with fail
  refine H1.out.mono ?_
  rintro e w1 ⟨rfl, hb1⟩
  obtain ⟨_, hx, _⟩ := newbox hb1
  have d1 := hx 1 _ rfl
  have HT1 := Lib.hid (HT.out.then hb1)
  clear hx hb1
  go_wp2_with fail
  refine (H2 w1 HT1.out.ref).out.mono ?_
  rintro e w2 ⟨rfl, hb2⟩
  have HT2 := Lib.hid (HT1.out.then hb2)
  clear hb2
  go_wp2_with fail
  go_ret
  exact ⟨by simp, HT2.out⟩

set_option maxRecDepth 100000 in
set_option maxHeartbeats 2000000 in
theorem asked_run (w w0 : World) (B pm pr : Nat) (L : List S) (D : List M.Dn) (kind lo hi val : Int) (hT : Two B w0 pm pr L D w) (hk : kind = 4) (hL : L.length ≤ 500000000) (hD : D.length ≤ 100000000) : Asked w w0 B pm pr L D kind lo hi val := by
  obtain ⟨e1, e2⟩ := ask_same (L := L) (D := D) (kind := kind) (lo := lo) (hi := hi) (val := val) (by omega) (by omega)
  unfold Asked
  rw [e1, e2]
  have hTB := hT.box (.cells #[.int .i64 kind, .int .u64 lo, .int .u64 hi, .int .i64 val] 29)
  have H1 := Lib.hid (run_calls _ 0 pm L lo hTB.map hT.same.1 (by omega))
  have H2 := fun W (hR : RefAt W B pr D) (hB : B ≤ W.heap.size) => Lib.hid (rrun_calls W B pr D L lo hR hD hB hT.same)
  have HL := fun W (s : S) => Lib.hid (like_calls W s.lo s.hi s.v s.lo s.hi s.v)
  simp only [beq_self_eq_true, Bool.and_self] at HL
  have HT := Lib.hid hTB
  have q3 : (kind == 3) = false := by simp; omega
  have q4 : (kind == 4) = true := by simpa using hk
  clear e1 e2 hT hTB hk
  generalize sp (run L lo) = s at *
  generalize (run L lo).isSome = b at *
  go_enter Try.func20, Try.ntmps20
  go_wp2_with fail
  refine H1.out.mono ?_
  rintro e w1 ⟨rfl, hb1⟩
  obtain ⟨_, hx, _⟩ := newbox hb1
  have d1 := hx 1 _ rfl
  have hz1 := hb1.size
  simp at hz1
  have HT1 := Lib.hid (HT.out.then hb1)
  clear hx hb1
  go_wp2_with fail
  refine (H2 _ (HT1.out.box _).ref (HT1.out.box _).size).out.mono ?_
  rintro e w2 ⟨rfl, hb2⟩
  obtain ⟨_, hx, _⟩ := newbox hb2
  have a0 := hx 0 _ rfl
  have a1 := hx 1 _ rfl
  have a2 := hx 2 _ rfl
  have hz2 := hb2.size
  simp at hz2
  have HT2 := Lib.hid ((HT1.out.box _).then hb2)
  clear hx hb2
  go_wp2_with fail
  refine (HL _ s).out.mono ?_
  rintro e w3 ⟨rfl, hb3⟩
  have HT3 := Lib.hid ((HT2.out.box _).then hb3)
  clear hb3
  go_wp2_with fail
  go_ret
  exact ⟨by simp, HT3.out⟩

set_option maxRecDepth 100000 in
set_option maxHeartbeats 2000000 in
theorem asked_next (w w0 : World) (B pm pr : Nat) (L : List S) (D : List M.Dn) (kind lo hi val : Int) (hT : Two B w0 pm pr L D w) (hk : kind = 5) (hL : L.length ≤ 500000000) (hD : D.length ≤ 100000000) : Asked w w0 B pm pr L D kind lo hi val := by
  obtain ⟨e1, e2⟩ := ask_same (L := L) (D := D) (kind := kind) (lo := lo) (hi := hi) (val := val) (by omega) (by omega)
  unfold Asked
  rw [e1, e2]
  have hTB := hT.box (.cells #[.int .i64 kind, .int .u64 lo, .int .u64 hi, .int .i64 val] 29)
  have H1 := Lib.hid (next_calls _ 0 pm L lo hTB.map hT.same.1 (by omega))
  have H2 := fun W (hR : RefAt W B pr D) (hB : B ≤ W.heap.size) => Lib.hid (rnext_calls W B pr D L lo hR hD hB hT.same)
  have HL := fun W (s : S) => Lib.hid (like_calls W s.lo s.hi s.v s.lo s.hi s.v)
  simp only [beq_self_eq_true, Bool.and_self] at HL
  have HT := Lib.hid hTB
  have q3 : (kind == 3) = false := by simp; omega
  have q4 : (kind == 4) = false := by simp; omega
  have q5 : (kind == 5) = true := by simpa using hk
  clear e1 e2 hT hTB hk
  generalize sp (nxt L lo) = s at *
  generalize (nxt L lo).isSome = b at *
  go_enter Try.func20, Try.ntmps20
  go_wp2_with fail
  refine H1.out.mono ?_
  rintro e w1 ⟨rfl, hb1⟩
  obtain ⟨_, hx, _⟩ := newbox hb1
  have d1 := hx 1 _ rfl
  have hz1 := hb1.size
  simp at hz1
  have HT1 := Lib.hid (HT.out.then hb1)
  clear hx hb1
  go_wp2_with fail
  refine (H2 _ (HT1.out.box _).ref (HT1.out.box _).size).out.mono ?_
  rintro e w2 ⟨rfl, hb2⟩
  obtain ⟨_, hx, _⟩ := newbox hb2
  have a0 := hx 0 _ rfl
  have a1 := hx 1 _ rfl
  have a2 := hx 2 _ rfl
  have hz2 := hb2.size
  simp at hz2
  have HT2 := Lib.hid ((HT1.out.box _).then hb2)
  clear hx hb2
  go_wp2_with fail
  refine (HL _ s).out.mono ?_
  rintro e w3 ⟨rfl, hb3⟩
  have HT3 := Lib.hid ((HT2.out.box _).then hb3)
  clear hb3
  go_wp2_with fail
  go_ret
  exact ⟨by simp, HT3.out⟩

theorem spans_any (w : World) (p : Nat) (L : List S) (hM : MapAt w 0 p L) (hn : L.length ≤ 1000000000) :
    Calls Try.prog 36 #[.pointer (some ⟨p, 0, none⟩)] w fun e w' => ∃ A b, e = .returned (.slice A L.length L.length) ∧ RowAt w' b (.slice A L.length L.length) L ∧ Below w.heap.size w w' :=
  (spans_calls w p L hM hn).mono fun _ _ ⟨a, b, c⟩ => ⟨_, _, a, b, c⟩

set_option maxRecDepth 100000 in
set_option maxHeartbeats 2000000 in
theorem asked_spans (w w0 : World) (B pm pr : Nat) (L : List S) (D : List M.Dn) (kind lo hi val : Int) (hT : Two B w0 pm pr L D w) (hk : kind = 6) (hL : L.length ≤ 500000000) (hD : D.length ≤ 100000000) : Asked w w0 B pm pr L D kind lo hi val := by
  obtain ⟨e1, e2⟩ := ask_same (L := L) (D := D) (kind := kind) (lo := lo) (hi := hi) (val := val) (by omega) (by omega)
  unfold Asked
  rw [e1, e2]
  have hTB := hT.box (.cells #[.int .i64 kind, .int .u64 lo, .int .u64 hi, .int .i64 val] 29)
  have H1 := Lib.hid (spans_any _ pm L hTB.map (by omega))
  have H2 := fun W (hR : RefAt W B pr D) (hB : B ≤ W.heap.size) => Lib.hid (rspans_same W B pr D L hR hD hB hT.same)
  have H3 := fun W b1 b2 c c' A A' (hR : RowAt W b1 (.slice A L.length c) L) (hR' : RowR W b2 (.slice A' L.length c') L) => Lib.hid (alike_calls W b1 b2 L.length c c' A A' L hR hR' rfl (by omega))
  have H4 := fun W (hM : MapAt W 0 pm L) => Lib.hid (len_calls W 0 pm L hM)
  have HT := Lib.hid hTB
  have q3 : (kind == 3) = false := by simp; omega
  have q4 : (kind == 4) = false := by simp; omega
  have q5 : (kind == 5) = false := by simp; omega
  have q6 : (kind == 6) = true := by simpa using hk
  clear e1 e2 hT hTB hk hL
  go_enter Try.func20, Try.ntmps20
  go_wp2_with fail
  refine H1.out.mono ?_
  rintro e w1 ⟨A1, b1, rfl, hR1, hb1⟩
  have HR1 := Lib.hid hR1
  have HT1 := Lib.hid (HT.out.then hb1)
  clear hb1 H1 HT hR1
  go_wp2_with fail
  refine (H2 _ HT1.out.ref HT1.out.size).out.mono ?_
  rintro e w2 ⟨A, c, rfl, hR2, _, hb2⟩
  have HR2 := Lib.hid hR2
  have HR3 := Lib.hid (HR1.out.below hb2)
  have HT2 := Lib.hid (HT1.out.then hb2)
  clear hb2 H2 hR2 HR1 HT1
  go_wp2_with fail
  refine (H3 w2 _ _ _ _ _ _ HR3.out HR2.out).out.mono ?_
  rintro e w3 ⟨rfl, hb3⟩
  have HT3 := Lib.hid (HT2.out.then hb3)
  clear hb3 H3 HR3 HR2 HT2
  go_wp2_with fail
  refine (H4 w3 HT3.out.map).out.mono ?_
  rintro e w4 ⟨rfl, nq, rfl⟩
  have HT4 : Hid (Two B w0 pm pr L D (w3.drewN nq)) := HT3.out.then ⟨rfl, rfl, rfl, Nat.le_refl _, fun _ _ => rfl⟩
  clear HT3 H4
  go_wp2_with fail
  go_ret
  exact ⟨by simp, HT4.out⟩

set_option maxRecDepth 100000 in
set_option maxHeartbeats 2000000 in
theorem asked_done (w w0 : World) (B pm pr : Nat) (L : List S) (D : List M.Dn) (kind lo hi val : Int) (hT : Two B w0 pm pr L D w) (ho : Opn.ok ⟨kind, lo, hi, val⟩) (hk : kind < 3 ∨ 6 < kind) (hL : L.length ≤ 500000000) (hD : D.length ≤ 100000000) : Asked w w0 B pm pr L D kind lo hi val := by
  unfold Asked
  have hTB := hT.box (.cells #[.int .i64 kind, .int .u64 lo, .int .u64 hi, .int .i64 val] 29)
  have H1 := Lib.hid (done_calls _ w0 B pm pr L D ⟨kind, lo, hi, val⟩ hTB ho hL (by omega))
  have q3 : (kind == 3) = false := by simp; omega
  have q4 : (kind == 4) = false := by simp; omega
  have q5 : (kind == 5) = false := by simp; omega
  have q6 : (kind == 6) = false := by simp; omega
  clear hT hTB hk hL hD ho
  unfold agg29 at H1
  go_enter Try.func20, Try.ntmps20
  go_wp2_with fail
  refine H1.out.mono ?_
  rintro e w1 ⟨rfl, HT⟩
  have HT1 := Lib.hid HT
  clear HT H1
  go_wp2_with fail
  go_ret
  exact ⟨rfl, HT1.out⟩

theorem asked_calls (w w0 : World) (B pm pr : Nat) (L : List S) (D : List M.Dn) (o : Opn) (hT : Two B w0 pm pr L D w) (ho : o.ok) (hL : L.length ≤ 500000000) (hD : D.length ≤ 100000000) :
    Calls Try.prog 20 #[.pointer (some ⟨pm, 0, none⟩), .pointer (some ⟨pr, 0, none⟩), agg29 o] w fun e w' => e = .returned (.bool true) ∧ Two B w0 pm pr (step L o) (rstep D o) w' := by
  obtain ⟨kind, lo, hi, val⟩ := o
  by_cases h3 : kind = 3
  · exact asked_get w w0 B pm pr L D kind lo hi val hT h3 hL hD
  · by_cases h4 : kind = 4
    · exact asked_run w w0 B pm pr L D kind lo hi val hT h4 hL hD
    · by_cases h5 : kind = 5
      · exact asked_next w w0 B pm pr L D kind lo hi val hT h5 hL hD
      · by_cases h6 : kind = 6
        · exact asked_spans w w0 B pm pr L D kind lo hi val hT h6 hL hD
        · exact asked_done w w0 B pm pr L D kind lo hi val hT ho (by omega) hL hD

end Go.Proofs.Ythkolpjbkbcmbaa
