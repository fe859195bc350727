/- The walk of join over spans of Tags. Printed by mkk.py. -/
import Derived.Test.YthkolpjbkbcmbaaKBase
import Derived.Test.YthkolpjbkbcmbaaLook
set_option linter.unusedVariables false
set_option linter.unusedSimpArgs false
namespace Go.Proofs.Ythkolpjbkbcmbaa.K
open Go.RowKit

theorem part4 (cs : Array Value) (off : Nat) (v : Value) (h : cs[off]? = some v) (W : World) : (part 4 cs off).run Try.prog W = .ok v W := by
  have h1 : (isAgg 4).run Try.prog W = .ok false W := by as_aux_lemma => kernel_rfl
  simp only [part, Sem.run_bind, h1, Result.andThen_ok, Bool.false_eq_true, if_false, h]
  rfl
theorem eqB (d : Nat) (a b : Bool) (W : World) : (Op.equalIn (d + 1) 4 (.bool a) (.bool b)).run Try.prog W = .ok (a == b) W := by
  simp [Op.equalIn, run_underlying Try.underlying4]
/-- '==' of two Tags. -/
theorem equal46 (a b : Int) (x y : Bool) (d : Nat) (W : World) : (Op.equalIn (d + 2) 46 (.agg #[.int .i64 a, .bool x]) (.agg #[.int .i64 b, .bool y])).run Try.prog W = .ok (a == b && x == y) W := by
  have hf : Try.prog.fieldsOf 46 = #[{ name := "A", type := 3, offset := 0, embedded := false, tag := "", pkgPath := "", byteOffset := 0 }, { name := "B", type := 4, offset := 1, embedded := false, tag := "", pkgPath := "", byteOffset := 8 }] := by
    simp [Program.fieldsOf, Try.underlying46]
  rw [run_equalIn_struct (P := Try.prog) W (d + 1) 46 _ _ (by rw [hf]; exact Try.underlying46) (by kernel_rfl), hf]
  have p0 := part3 #[.int .i64 a, .bool x] 0 (.int .i64 a) rfl W
  have p1 := part4 #[.int .i64 a, .bool x] 1 (.bool x) rfl W
  have r0 := part3 #[.int .i64 b, .bool y] 0 (.int .i64 b) rfl W
  have r1 := part4 #[.int .i64 b, .bool y] 1 (.bool y) rfl W
  have e0 := eqI d a b W
  have e1 := eqB d x y W
  have n0 : ¬ ("A" = "_") := by decide
  have n1 : ¬ ("B" = "_") := by decide
  simp only [Op.eqFields, ne_eq, n0, n1, not_false_eq_true, if_true, Sem.run_bind, p0, p1, r0, r1, e0, e1, Result.andThen_ok, Sem.run_ite, Sem.run_pure]
  cases (a == b) <;> cases (x == y) <;> simp
theorem eql46 (a b : Int) (x y : Bool) (W : World) : (binOp .eql 46 (.agg #[.int .i64 a, .bool x]) (.agg #[.int .i64 b, .bool y])).run Try.prog W = .ok (.bool (a == b && x == y)) W := by
  simp only [binOp]
  simp [Op.equal, Op.maxDepth, equal46 a b x y 9998]
theorem neq46_same (a : Int) (x : Bool) (W : World) : (binOp .neq 46 (.agg #[.int .i64 a, .bool x]) (.agg #[.int .i64 a, .bool x])).run Try.prog W = .ok (.bool false) W := by
  simp only [binOp]
  simp [Op.equal, Op.maxDepth, equal46 a a x x 9998]

theorem app_span_f {ops : Array Oper} {rest : List Oper} {o : Oper} {a : Act} {Q : Exit → Act → World → Prop} {W : World} {t : Int} {tb : Bool} (base : Nat) (hgd : o.guard = none) (s x : Operand)
    (ho : o.op = .call { callee := .builtin .append, args := #[s, x], argTypes := #[59, 59] })
    (v : Value) (l : List S) (y : S) (ht : t = y.v / 2) (htb : tb = (y.v % 2 != 0)) (hs : a.eval s = v) {H : Nat} (hx : a.eval x = .slice (some ⟨H, 0, none⟩) 1 1) (hH : W.heap.size = H)
    (HO : RowAt W base v l) (hl : l.length ≤ 2000000000) (hbase : base ≤ W.heap.size)
    (h : ∀ v' w', RowAt w' base v' (l ++ [y]) → W.grownBy w' v.ownBlock → (v'.ownBlock = v.ownBlock ∨ ∃ b, v'.ownBlock = some b ∧ W.heap.size ≤ b) → wpList Try.prog ops Q rest (a.put o.dst v') w') :
    wpList Try.prog ops Q (o :: rest) a (W.alloc (.cells #[.int .u64 y.lo, .int .u64 y.hi, .int .i64 t, .bool tb] 65)) := by
  subst ht
  subst htb
  exact app_span base hgd s x ho v l y hs hx hH HO hl hbase h

/-- Two Tags are one just where their numbers are. -/
theorem tag_eq (a b : Int) : (a / 2 = b / 2 ∧ (a % 2 != 0) = (b % 2 != 0)) ↔ a = b := by
  rcases Int.emod_two_eq a with ha | ha <;> rcases Int.emod_two_eq b with hb | hb <;> by_cases h : a / 2 = b / 2 <;> by_cases e : a = b <;> simp [ha, hb, h, e] <;> omega

/-- A row that was handed in is handed back as l, in its own block or in a new one. -/
def Made (w : World) (base : Nat) (v : Value) (l : List S) (e : Ending) (w' : World) : Prop :=
  ∃ v', e = .returned v' ∧ RowAt w' base v' l ∧ w.grownBy w' v.ownBlock ∧ (v'.ownBlock = v.ownBlock ∨ ∃ b, v'.ownBlock = some b ∧ w.heap.size ≤ b)

theorem made_of {w W w' : World} {base : Nat} {v v' : Value} {l : List S} (hg0 : w.grownBy W v.ownBlock) (h1 : RowAt w' base v' l) (h2 : W.grownBy w' v.ownBlock) (h3 : v'.ownBlock = v.ownBlock ∨ ∃ b, v'.ownBlock = some b ∧ W.heap.size ≤ b) :
    Made w base v l (.returned v') w' :=
  ⟨v', rfl, h1, hg0.trans h2, h3.imp id fun ⟨b, hb, hs⟩ => ⟨b, hb, Nat.le_trans hg0.size hs⟩⟩

set_option maxHeartbeats 400000 in
theorem join_0 (w : World) (base c : Nat) (A : Option Addr) (slo shi sv t : Int) (tb : Bool) (ht1 : t = sv / 2) (htb1 : tb = (sv % 2 != 0)) (hrow : RowAt w base (.slice A 0 c) []) (hbase : base ≤ w.heap.size) :
    Calls Try.prog 66 #[.slice A 0 c, .agg #[.int .u64 slo, .int .u64 shi, .int .i64 t, .bool tb]] w (Made w base (.slice A 0 c) [⟨slo, shi, sv⟩]) := by
  have HT1 := Lib.hid ht1
  have HT2 := Lib.hid htb1
  clear ht1 htb1
  have hg : decide ((0 : Int) < 0) = false := by simp
  go_enter Try.func66, Try.ntmps66
  go_wp2
  go_quiet (fail)
  have HO := hrow.alloc (.cells #[.int .u64 slo, .int .u64 shi, .int .i64 t, .bool tb] 65)
  go_wp2_with (at_builtin; (have ht1 := HT1.out; have htb1 := HT2.out; subst ht1; subst htb1; refine app_span_d base rfl _ _ rfl (.slice A 0 c) [] ⟨slo, shi, sv⟩ rfl rfl (by simp) HO (by simp) (by simp; omega) ?_); intro v' w' hR hG hat)
  go_ret
  exact made_of (World.grownBy_alloc w _ _) hR hG hat

set_option maxHeartbeats 1000000 in
theorem join_a (w : World) (base m c g : Nat) (l : List S) (slo shi sv t thi tv : Int) (tb tvb : Bool) (ht1 : t = sv / 2) (htb1 : tb = (sv % 2 != 0)) (hrow : RowAt w base (.slice (some ⟨g, 0, none⟩) (m + 1) c) l) (hl : l.length ≤ 2000000000) (hm : m ≤ 2000000000) (hmc : m + 1 ≤ c) (hbase : base ≤ w.heap.size) (hgl : g < w.heap.size)
    (h1 : w.cell? ⟨g, m * 4 + 1, none⟩ = some (.int .u64 thi)) (h2 : w.cell? ⟨g, m * 4 + 2, none⟩ = some (.int .i64 tv)) (h3 : w.cell? ⟨g, m * 4 + 3, none⟩ = some (.bool tvb))
    (hlt : thi < slo) (ht0 : 0 ≤ thi) (ht : slo ≤ 18446744073709551615)
    (hne : (¬ thi + 1 = slo) ∨ (thi + 1 = slo ∧ (¬ tv = t ∨ (tv = t ∧ ¬ tvb = tb)))) :
    Calls Try.prog 66 #[.slice (some ⟨g, 0, none⟩) (m + 1) c, .agg #[.int .u64 slo, .int .u64 shi, .int .i64 t, .bool tb]] w (Made w base (.slice (some ⟨g, 0, none⟩) (m + 1) c) (l ++ [⟨slo, shi, sv⟩])) := by
  have HT1 := Lib.hid ht1
  have HT2 := Lib.hid htb1
  clear ht1 htb1
  have hg : (0 : Int) < (m : Int) + 1 := by omega
  have q0 : (0 : Int) ≤ (m : Int) + 1 - 1 := by omega
  have q1 : (m : Int) + 1 - 1 < (m : Int) + 1 := by omega
  have HROW := Lib.hid hrow
  clear hrow
  rcases hne with hne | ⟨he, hne⟩
  · have hg2 : ((thi + 1 : Int) == slo) = false := by simpa using hne
    go_enter Try.func66, Try.ntmps66
    go_wp2
    go_quiet (fail)
    have HO := HROW.out.alloc (.cells #[.int .u64 slo, .int .u64 shi, .int .i64 t, .bool tb] 65)
    go_wp2_with (at_builtin; (have ht1 := HT1.out; have htb1 := HT2.out; subst ht1; subst htb1; refine app_span_d base rfl _ _ rfl (.slice (some ⟨g, 0, none⟩) (m + 1) c) l ⟨slo, shi, sv⟩ rfl rfl (by simp) HO hl (by simp; omega) ?_); intro v' w' hR hG hat)
    go_ret
    exact made_of (World.grownBy_alloc w _ _) hR hG hat
  · have hg2 : ((thi + 1 : Int) == slo) = true := by simpa using he
    rcases hne with hne | ⟨htv, hne⟩
    all_goals
      try (have htv2 := htv.symm; clear htv; subst htv2)
      go_enter Try.func66, Try.ntmps66
      go_wp2
      go_quiet (fail)
      have HO := HROW.out.alloc (.cells #[.int .u64 slo, .int .u64 shi, .int .i64 t, .bool tb] 65)
      go_wp2_with (at_builtin; (have ht1 := HT1.out; have htb1 := HT2.out; subst ht1; subst htb1; refine app_span_d base rfl _ _ rfl (.slice (some ⟨g, 0, none⟩) (m + 1) c) l ⟨slo, shi, sv⟩ rfl rfl (by simp) HO hl (by simp; omega) ?_); intro v' w' hR hG hat)
      go_ret
      exact made_of (World.grownBy_alloc w _ _) hR hG hat

set_option maxHeartbeats 1000000 in
theorem join_c (w : World) (base m c g : Nat) (l : List S) (slo shi sv t thi tv : Int) (tb tvb : Bool) (ht1 : t = sv / 2) (htb1 : tb = (sv % 2 != 0)) (hrow : RowAt w base (.slice (some ⟨g, 0, none⟩) (m + 1) c) l) (hm : m ≤ 2000000000) (hmc : m + 1 ≤ c) (hgl : g < w.heap.size)
    (h1 : w.cell? ⟨g, m * 4 + 1, none⟩ = some (.int .u64 thi)) (h2 : w.cell? ⟨g, m * 4 + 2, none⟩ = some (.int .i64 tv)) (h3 : w.cell? ⟨g, m * 4 + 3, none⟩ = some (.bool tvb)) (hf : w.frozen? ⟨g, m * 4 + 1, none⟩ = false)
    (hlt : thi < slo) (ht0 : 0 ≤ thi) (ht : slo ≤ 18446744073709551615) (he : ((thi + 1 : Int) == slo) = true) (hv : tv = t) (hvb : tvb = tb) :
    Calls Try.prog 66 #[.slice (some ⟨g, 0, none⟩) (m + 1) c, .agg #[.int .u64 slo, .int .u64 shi, .int .i64 t, .bool tb]] w fun e w' =>
      e = .returned (.slice (some ⟨g, 0, none⟩) (m + 1) c) ∧ ∃ nq, w' = ((w.alloc (.cells #[.int .u64 slo, .int .u64 shi, .int .i64 t, .bool tb] 65)).drewN nq).setCell ⟨g, m * 4 + 1, none⟩ (.int .u64 shi) := by
  have HT1 := Lib.hid ht1
  have HT2 := Lib.hid htb1
  clear ht1 htb1
  have hg : (0 : Int) < (m : Int) + 1 := by omega
  have q0 : (0 : Int) ≤ (m : Int) + 1 - 1 := by omega
  have q1 : (m : Int) + 1 - 1 < (m : Int) + 1 := by omega
  clear hrow
  subst hv
  subst hvb
  go_enter Try.func66, Try.ntmps66
  go_wp2
  go_quiet (fail)
  go_wp2
  go_ret
  exact ⟨rfl, _, rfl⟩

theorem flat_set_last (l : List S) (t : S) (h : Int) : (flat (l ++ [t])).set (l.length * 4 + 1) (.int .u64 h) = flat (l ++ [⟨t.lo, h, t.v⟩]) := by
  rw [flat_append, flat_append, ← flat_length, List.set_append_right _ _ (by omega)]
  have e : (flat l).length + 1 - (flat l).length = 1 := by omega
  rw [e]
  rfl

set_option maxHeartbeats 1000000 in
theorem join_calls (w : World) (base : Nat) (v : Value) (l : List S) (s : S) (hrow : RowAt w base v l) (hl : l.length ≤ 2000000000) (hbase : base ≤ w.heap.size)
    (hlast : ∀ t ∈ l, 0 ≤ t.hi ∧ t.hi < s.lo) (ht : s.lo ≤ M.top) :
    Calls Try.prog 66 #[v, .agg #[.int .u64 s.lo, .int .u64 s.hi, .int .i64 (s.v / 2), .bool (s.v % 2 != 0)]] w (Made w base v (M.join l s)) := by
  obtain ⟨A, c, rfl, hlc, hc, hread⟩ := hrow.read
  obtain ⟨slo, shi, sv⟩ := s
  rcases M.snoc_cases l with rfl | ⟨m, t, rfl⟩
  · exact join_0 w base c A slo shi sv _ _ rfl rfl hrow hbase
  · have hlen : (m ++ [t]).length = m.length + 1 := by simp
    obtain ⟨g, rfl, hbg, hgl, h0, h1, h2, h3, hf⟩ := hread m.length t (by simp)
    obtain ⟨ha, hb⟩ := hlast t (by simp)
    rw [M.join_snoc]
    have ht' : slo ≤ 18446744073709551615 := ht
    by_cases hj : t.hi + 1 = slo ∧ t.v = sv
    · rw [if_pos hj]
      obtain ⟨he, hv⟩ := hj
      rw [hlen] at hrow hl hlc ⊢
      refine (join_c w base m.length c g (m ++ [t]) slo shi sv (sv / 2) t.hi (t.v / 2) (sv % 2 != 0) (t.v % 2 != 0) rfl rfl hrow (by omega) hlc hgl h1 h2 h3 hf hb ha ht' (by simpa using he) ((tag_eq _ _).2 hv).1 ((tag_eq _ _).2 hv).2).mono ?_
      rintro e w' ⟨rfl, nq, rfl⟩
      have hown : World.ownsRow ((w.alloc (.cells #[.int .u64 slo, .int .u64 shi, .int .i64 (sv / 2), .bool (sv % 2 != 0)] 65)).drewN nq) base 65 4 (.slice (some ⟨g, 0, none⟩) (m.length + 1) c) (m.length + 1) (flat (m ++ [t])) := by
        have := (hrow.alloc (.cells #[.int .u64 slo, .int .u64 shi, .int .i64 (sv / 2), .bool (sv % 2 != 0)] 65)).drewN nq
        unfold RowAt at this
        rwa [hlen] at this
      have hs := hown.stored (m.length * 4 + 1) (.int .u64 shi)
      refine ⟨_, rfl, ?_, ?_, .inl rfl⟩
      · have := hs.1
        rw [flat_set_last] at this
        unfold RowAt
        simpa using this
      · exact (World.grownBy_alloc w _ _).trans (grown_of_drewN hs.2)
    · rw [if_neg hj]
      rw [hlen] at hrow hlc ⊢
      refine join_a w base m.length c g (m ++ [t]) slo shi sv (sv / 2) t.hi (t.v / 2) (sv % 2 != 0) (t.v % 2 != 0) rfl rfl hrow hl (by omega) hlc hbase hgl h1 h2 h3 hb ha ht' ?_
      by_cases he : t.hi + 1 = slo
      · refine .inr ⟨he, ?_⟩
        by_cases h5 : t.v / 2 = sv / 2
        · exact .inr ⟨h5, fun h6 => hj ⟨he, (tag_eq _ _).1 ⟨h5, h6⟩⟩⟩
        · exact .inl h5
      · exact .inl he

end Go.Proofs.Ythkolpjbkbcmbaa.K
