/- SpansWithin: pieces. -/
import Derived.Test.YthkolpjbkbcmbaaWithinI
import Derived.Maps.OwnIn
set_option linter.unusedVariables false
set_option linter.unusedSimpArgs false
namespace Go.Proofs.Ythkolpjbkbcmbaa
open Go.RowKit
attribute [local go_sem] Oper.semAt_some

/-- 'append' of one span, in a round. -/
theorem app_spanIn {F : Fence} {nF : Nat} {ops : Array Oper} {rest : List Oper} {o : Oper} {a : Act} {Q : Exit → Act → World → Prop} {W : World} (base : Nat) (hgd : o.guard = none) (s x : Operand)
    (ho : o.op = .call { callee := .builtin .append, args := #[s, x], argTypes := #[69, 69] })
    (v : Value) (l : List S) (y : S) (hs : a.eval s = v) {H : Nat} (hx : a.eval x = .slice (some ⟨H, 0, none⟩) 1 1) (hH : W.heap.size = H)
    (HO : RowAt W base v l) (hl : l.length ≤ 2000000000) (hbase : base ≤ W.heap.size)
    (h : ∀ v' w', RowAt w' base v' (l ++ [y]) → (W.alloc (.cells #[.int .u64 y.lo, .int .u64 y.hi, .int .i64 y.v] 34)).grownBy w' v.ownBlock → (v'.ownBlock = v.ownBlock ∨ ∃ b, v'.ownBlock = some b ∧ W.heap.size ≤ b) → wpListIn F nF Try.prog ops Q rest (a.put o.dst v') w') :
    wpListIn F nF Try.prog ops Q (o :: rest) a (W.alloc (.cells #[.int .u64 y.lo, .int .u64 y.hi, .int .i64 y.v] 34)) := by
  subst hH
  obtain ⟨i0, hi, hz0, hz1, hz2⟩ := info_parts info34
  refine wpListIn_append_own_at (W.alloc _) hgd s x 69 ho base 34 i0 _ 3 24 Try.underlying69 hi hz0 hz1 hz2 rfl (by omega) v l.length (flat l) hs (World.ownsRow.alloc HO _) ⟨W.heap.size, 0, none⟩ 1 1
    [.int .u64 y.lo, .int .u64 y.hi, .int .i64 y.v] hx rfl (World.news_of_block (cs := #[.int .u64 y.lo, .int .u64 y.hi, .int .i64 y.v]) (t := 34) (fr := (0, 0)) (heap_alloc_new W _))
    (by simp [Value.oneCell']) (by simp only [maxLen]; omega) (by omega) (by simp; omega) ?_
  intro v1 w1 hown hg _ hat
  refine h v1 w1 ?_ hg ?_
  · unfold RowAt
    rw [flat_append, List.length_append]
    exact hown
  · rcases hat with hat | hat
    · exact .inl hat
    · exact .inr ⟨_, hat, by simp⟩

/-- What pieces tells, stopped behind most of them. -/
def few (most : Int) (l : List S) : List S := if most = 0 then [] else if 0 < most then l.take most.toNat else l

/-- The blocks that the loop's body writes: the box, and the row that the box holds. -/
def XP (B : Nat) (W : World) (k : Nat) : Prop := k = B ∨ ∃ n c, W.cell? ⟨B, 0, none⟩ = some (.slice (some ⟨k, 0, none⟩) n c)

theorem ownBlk {g n c : Nat} : (Value.slice (some ⟨g, 0, none⟩) n c).ownBlock = some g := rfl
theorem own_form {w : World} {base e size n k : Nat} {v : Value} {xs : List Value} (h : w.ownsRow base e size v n xs) (hk : v.ownBlock = some k) : ∃ c, v = .slice (some ⟨k, 0, none⟩) n c := by
  rcases h.2 with ⟨rfl, _⟩ | ⟨g, cap, cur, rfl, _⟩
  · simp [Value.ownBlock] at hk
  · rw [ownBlk] at hk
    injection hk with hk
    subst hk
    exact ⟨cap, rfl⟩

theorem kept_append {W w1 : World} {B base n m : Nat} {v v' : Value} {xs ys : List Value} {o : Obj} (hv : Boxed W B 69 v) (hrow : W.ownsRow base 34 3 v n xs) (hrow' : w1.ownsRow base 34 3 v' m ys) (hB1 : Boxed w1 B 69 v)
    (hg : (W.alloc o).grownBy w1 v.ownBlock) (hat : v'.ownBlock = v.ownBlock ∨ ∃ b, v'.ownBlock = some b ∧ W.heap.size ≤ b) : Kept (XP B) W (w1.setCell ⟨B, 0, none⟩ v') := by
  have hg' : W.grownBy w1 v.ownBlock := grown_alloc hg
  have hs := grownBy_setCell' w1 B v'
  refine ⟨Nat.le_trans hg'.size hs.size, fun k cs t fr hk hx => ?_, fun k hk hx => ?_⟩
  · have hkl := (Array.getElem?_eq_some_iff.1 hk).1
    have h1 : k ≠ B := fun e => hx (.inl e)
    have h2 : some k ≠ v.ownBlock := fun e => by
      obtain ⟨c, rfl⟩ := own_form hrow e.symm
      exact hx (.inr ⟨_, _, hv.cell⟩)
    exact (hs.block k (Nat.lt_of_lt_of_le hkl hg'.size) (fun e => by injection e with e; exact h1 e)).trans (hg'.block k hkl h2)
  · rcases hx with rfl | ⟨n', c', hc⟩
    · exact .inl rfl
    · have hc2 : v' = .slice (some ⟨k, 0, none⟩) n' c' := by
        have := (hB1.set v').cell
        rw [this] at hc
        injection hc
      have ho : v'.ownBlock = some k := by rw [hc2]; rfl
      rcases hat with h | ⟨b, h, hb⟩
      · rw [h] at ho
        obtain ⟨c, rfl⟩ := own_form hrow ho
        exact .inr ⟨_, _, hv.cell⟩
      · rw [h] at ho
        injection ho with ho
        omega

theorem kept_alloc {W : World} {B : Nat} (hB : B < W.heap.size) (o : Obj) : Kept (XP B) W (W.alloc o) := by
  have hg := World.grownBy_alloc W o none
  refine ⟨hg.size, fun k cs t fr hk hx => hg.block k (Array.getElem?_eq_some_iff.1 hk).1 (by simp), fun k hk hx => ?_⟩
  rcases hx with rfl | ⟨n', c', hc⟩
  · exact .inl rfl
  · exact .inr ⟨n', c', by rw [← hc]; exact (World.cell?_of_block (hg.block B hB (by simp))).symm⟩

theorem few_all {most : Int} {l : List S} (h0 : ¬ most = 0) (h : 0 < most → (l.length : Int) < most) : few most l = l := by
  unfold few
  rw [if_neg h0]
  by_cases hp : 0 < most
  · rw [if_pos hp, List.take_of_length_le (by have := h hp; omega)]
  · rw [if_neg hp]
theorem few_pre {most : Int} {l pre : List S} (hp : 0 < most) (h : pre <+: l) (he : (pre.length : Int) = most) : few most l = pre := by
  unfold few
  rw [if_neg (by omega), if_pos hp]
  obtain ⟨r, rfl⟩ := h
  rw [← he]
  simp

set_option maxRecDepth 100000 in
set_option maxHeartbeats 4000000 in
theorem pieces_calls (w : World) (pm : Nat) (L : List S) (lo hi most : Int) (hM : MapAt w 0 pm L) (hWF : M.WF L) (hL : L.length ≤ 1000000000) :
    Calls Try.prog 41 #[.pointer (some ⟨pm, 0, none⟩), .int .u64 lo, .int .u64 hi, .int .i64 most] w fun e w' => ∃ v, e = .returned v ∧ RowAt w' w.heap.size v (few most (wthn lo hi L)) ∧ Below w.heap.size w w' := by
  have HWi := fun W => Lib.hid (within_calls W (some ⟨pm, 0, none⟩) lo hi)
  refine (callsIn_wide (n := 9)).1 ?_
  refine callsIn_of_wp_marks (F := Fence.wide) Try.func41 rfl trivial ?_ rfl
  simp only [Try.ntmps41, List.size_toArray, List.length_cons, List.length_nil, Nat.reduceAdd, Nat.reduceSub, Array.replicate_succ, Array.replicate_zero, List.push_toArray, List.append_toArray, List.nil_append, List.cons_append]
  refine wpIn_wide.2 ?_
  by_cases h0 : most = 0
  · subst h0
    go_wp2_with fail
    exact ⟨_, results_tmp rfl _ _ _, _, rfl, RowAt.nil _ _, ((Below.refl w.heap.size w).alloc (Nat.le_refl _) _).alloc (by simp) _⟩
  · have q0 : (most == 0) = false := by simpa using h0
    go_wp2_with fail
    refine (HWi _).out.mono ?_
    rintro e w1 ⟨rfl, b3, b1, b2, hb⟩
    have b7 := (Boxed.new w 3 (.int .i64 most)).alloc (.cells #[.slice none 0 0] 69)
    have b9 := Boxed.new (w.alloc (.cells #[.int .i64 most] 3)) 69 (.slice none 0 0)
    have hBw : Below w.heap.size w ((w.alloc (.cells #[.int .i64 most] 3)).alloc (.cells #[.slice none 0 0] 69)) := ((Below.refl w.heap.size w).alloc (Nat.le_refl _) _).alloc (by simp) _
    have hb1 := below_then hBw hBw.size hb
    replace b7 : Boxed w1 _ 3 _ := (hb.block _ b7.lt).trans b7
    replace b9 : Boxed w1 _ 69 _ := (hb.block _ b9.lt).trans b9
    have hM1 : MapAt w1 0 pm L := hM.below hb1
    simp only [World.size_alloc] at b1 b2 b3 b9
    have hB7 := b7.lt
    have hB9 := b9.lt
    have hB1 := b1.lt
    have hB2 := b2.lt
    clear hb hBw hM HWi
    have hcell : ∀ W, Below w1.heap.size w1 W → W.cell? ⟨w.heap.size + 1, 0, none⟩ = some (.slice none 0 0) := fun W h => (h.cell (p := ⟨w.heap.size + 1, 0, none⟩) hB9).trans b9.cell
    go_wp2_with fail
    refine (wpIn_wide (n := 9)).1 ?_
    refine wpIn_rangeFunc_ownH (F := Fence.wide) (n := 9) rfl (by decide) (gf := 62) (lb := #[.pointer (some ⟨w.heap.size + 1 + 1 + 1, 0, none⟩), .pointer (some ⟨w.heap.size + 1 + 1 + 2, 0, none⟩), .pointer (some ⟨w.heap.size + 1 + 1, 0, none⟩)]) rfl trivial (enters_of Try.func62 (by kernel_rfl) rfl)
      (within_stops (XP (w.heap.size + 1)) w1 _ _ _ pm 8 L lo hi hM1 hWF hL b1 b2 b3 ?hX0 ?hXg) (fun h k => Kept.trans h k) ?hKb (Below.refl _ _) (fun _ => rfl)
      (fun pre W => ((∃ v, Boxed W (w.heap.size + 1) 69 v ∧ W.ownsRow w.heap.size 34 3 v pre.length (flat pre) ∧ True) ∧ Boxed W w.heap.size 3 (.int .i64 most)) ∧ (Below w.heap.size w W ∧ (0 < most → (pre.length : Int) < most)))
      (fun c pre W => (c = .exit 0 ∧ 0 < most ∧ (pre.length : Int) = most) ∧ ((∃ v, Boxed W (w.heap.size + 1) 69 v ∧ W.ownsRow w.heap.size 34 3 v pre.length (flat pre) ∧ True) ∧ Below w.heap.size w W))
      (OwnFrom.and (OwnFrom.and (Own.from (holdsRow_own w.heap.size (w.heap.size + 1) 69 34 3 (fun pre : List S => pre.length) flat (fun _ _ => True)) _) (Own.from (boxed_own w.heap.size 3 (fun _ : List S => Value.int .i64 most)) _)) (OwnFrom.and (ownFrom_below (Nat.le_refl _) (by omega)) (ownFrom_pure _ (fun pre : List S => 0 < most → (pre.length : Int) < most))))
      (fun c => OwnFrom.and (ownFrom_pure _ (fun pre : List S => c = .exit 0 ∧ 0 < most ∧ (pre.length : Int) = most)) (OwnFrom.and (Own.from (holdsRow_own w.heap.size (w.heap.size + 1) 69 34 3 (fun pre : List S => pre.length) flat (fun _ _ => True)) _) (ownFrom_below (Nat.le_refl _) (by omega))))
      ⟨⟨⟨_, b9, World.ownsRow_nil _ _ _ _, trivial⟩, b7⟩, hb1, fun h => by simpa using h⟩
      (fun x a' W => ∃ Bx, W.heap[Bx]? = some (.cells #[.int .u64 x.lo, .int .u64 x.hi, .int .i64 x.v] 34 (0, 0)) ∧ a' = { tmps := #[.pointer (some ⟨pm, 0, none⟩), .int .u64 lo, .int .u64 hi, .int .i64 most, undef, undef, undef, .pointer (some ⟨w.heap.size, 0, none⟩), .slice none 0 0, .pointer (some ⟨w.heap.size + 1, 0, none⟩), .pointer (some ⟨Bx, 0, none⟩), .int .i64 most, .bool false, undef, .pointer (some ⟨pm, 0, none⟩), .int .u64 lo, .int .u64 hi, .func (.func 62) #[] #[.pointer (some ⟨w.heap.size + 1 + 1 + 1, 0, none⟩), .pointer (some ⟨w.heap.size + 1 + 1 + 2, 0, none⟩), .pointer (some ⟨w.heap.size + 1 + 1, 0, none⟩)], .agg #[.int .u64 x.lo, .int .u64 x.hi, .int .i64 x.v], undef, undef, undef, undef, undef, undef, undef, undef, undef, undef, undef, undef, undef], defers := [] })
      ?hAx ?assign ?body ?done ?stop
    case hX0 =>
      rintro W hW k (rfl | ⟨n', c', hc⟩)
      · exact ⟨hB9, by omega, by omega⟩
      · rw [hcell W hW] at hc; cases hc
    case hXg =>
      rintro W W' hz hg k hk (rfl | ⟨n', c', hc⟩)
      · exact .inl rfl
      · exact .inr ⟨n', c', by rw [← hc]; exact (World.cell?_of_block (hg.block (w.heap.size + 1) (by omega) (by simp))).symm⟩
    case hKb =>
      intro W l o o' hl ho hc hw
      have hg := grownBy_putObj' W l o'
      refine ⟨hg.size, fun k cs t fr hk hx => hg.block k (Array.getElem?_eq_some_iff.1 hk).1 (fun e => by injection e with e; subst e; rw [hk] at ho; injection ho with ho; subst ho; cases hc), fun k hk hx => ?_⟩
      rcases hx with rfl | ⟨n', c', hx⟩
      · exact .inl rfl
      · refine .inr ⟨n', c', ?_⟩
        rw [← hx]
        have hlz := (Array.getElem?_eq_some_iff.1 ho).1
        exact (World.cell?_of_block (hg.block (w.heap.size + 1) (by omega) (fun e => by injection e with e; omega))).symm
    case hAx =>
      rintro x a' _ X Y row ⟨Bx, h1, h2⟩ hg hr
      refine ⟨Bx, (hg.block Bx (Array.getElem?_eq_some_iff.1 h1).1 (fun e => ?_)).trans h1, h2⟩
      obtain ⟨_, o, ho, hc⟩ := hr Bx e.symm
      rw [h1] at ho; injection ho with ho; subst ho; cases hc
    case assign =>
      rintro l pre x W K ⟨⟨⟨v, hv, hrow, _⟩, hmo⟩, hB, hlt⟩ hK
      unfold enS
      gi_wp2
      exact hK _ _ ((KeepsOthers.alloc _ _).from _) (kept_alloc hv.lt _) ⟨⟨⟨_, hv.alloc _, hrow.alloc _, trivial⟩, hmo.alloc _⟩, hB.alloc hB.size _, hlt⟩ ⟨W.heap.size, heap_alloc_new W _, rfl⟩
    case body =>
      rintro l pre x a' W hl hr ⟨⟨⟨v, hv, hrow, _⟩, hmo⟩, hB, hlt⟩ ⟨Bx, bX, rfl⟩ hlen
      have hlen2 : pre.length ≤ 2000000000 := by have := wthn_length lo hi L; omega
      have c9 := hv.cell
      have c7 := hmo.cell
      have x0 : W.cell? ⟨Bx, 0, none⟩ = some (.int .u64 x.lo) := by simp [cell_of_row W _ 0 _ _ _ bX]
      have x1 : W.cell? ⟨Bx, 1, none⟩ = some (.int .u64 x.hi) := by simp [cell_of_row W _ 1 _ _ _ bX]
      have x2 : W.cell? ⟨Bx, 2, none⟩ = some (.int .i64 x.v) := by simp [cell_of_row W _ 2 _ _ _ bX]
      gi_wp2_with (gi_at_builtin; (refine app_spanIn w.heap.size rfl (.tmp 19) (.tmp 21) rfl v pre x rfl rfl (by simp) hrow hlen2 hB.size ?_); intro v' w2 hR' hg hat; obtain ⟨hv1, hv2, hr2, hk2, hb2⟩ := hv.appended (by decide) hrow hB.size (Nat.le_succ _) hR' hg; have hKp := kept_append hv hrow hR' hv1 hg hat; obtain ⟨g', cap', hv', hg1, hg2⟩ := World.ownsRow.form hR' (by simp); subst hv'; have hv1c := hv1.cell; have hv1f := hv1.frozen; have hm1 := hmo.kept (grown_alloc hg) (hmo.not_row (by decide) hrow); have hm1c := hm1.cell; have hm2 := fun u => hm1.other (B' := w.heap.size + 1) (by omega) u; simp only [List.length_append, List.length_cons, List.length_nil, Nat.zero_add] at *)
      all_goals first
        | exact ⟨hk2.from _, hKp, ⟨⟨_, hv2, by simpa using hr2⟩, hm2 _⟩, hB.trans hb2, fun h => by simp; omega⟩
        | exact ⟨hk2.from _, ⟨rfl, by omega, by simp; omega⟩, ⟨_, hv2, by simpa using hr2⟩, hB.trans hb2⟩
    case done =>
      rintro D xs W hD rfl ⟨⟨⟨v, hv, hrow, _⟩, hmo⟩, hB, hlt⟩ hK
      have hc := hv.cell
      go_wp2_with fail
      refine ⟨by simp, .inl ⟨_, _, rfl, run_takeDeferred hK, ?_⟩⟩
      have hR : RowAt (W.putObj D (.deferred none)) w.heap.size v (wthn lo hi L) := ownsRow_putObj hrow _ hK rfl
      exact ⟨_, results_tmp rfl _ _ _, v, rfl, by rw [few_all h0 hlt]; exact hR, hB.trans (belowK_b (w := w) (Nat.le_refl _) W D _ _ (by omega) hK rfl rfl)⟩
    case stop =>
      rintro D c pre W hD hp ⟨⟨rfl, hm0, hpe⟩, ⟨v, hv, hrow, _⟩, hB⟩ hK
      have hc := hv.cell
      refine wpIn_wide.2 ?_
      go_wp2_with fail
      refine ⟨by simp, .inl ⟨_, _, rfl, run_takeDeferred hK, ?_⟩⟩
      have hR : RowAt (W.putObj D (.deferred none)) w.heap.size v pre := ownsRow_putObj hrow _ hK rfl
      exact ⟨_, results_tmp rfl _ _ _, v, rfl, by rw [few_pre hm0 hp hpe]; exact hR, hB.trans (belowK_b (w := w) (Nat.le_refl _) W D _ _ (by omega) hK rfl rfl)⟩

end Go.Proofs.Ythkolpjbkbcmbaa
