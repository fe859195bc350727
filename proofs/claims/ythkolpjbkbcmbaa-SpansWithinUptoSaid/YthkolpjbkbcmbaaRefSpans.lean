/- The walk of the reference's Spans. -/
import Derived.Test.YthkolpjbkbcmbaaRefCuts
import Derived.Test.YthkolpjbkbcmbaaJoin
import Derived.StillTailTactics
import Derived.Deep.AppendLies
import Derived.Deep.RegionHeldLaw
set_option linter.unusedVariables false
set_option linter.unusedSimpArgs false
namespace Go.Proofs.Ythkolpjbkbcmbaa
open Go.RowKit

/-- A row of the reference's spans. -/
def RowR (w : World) (base : Nat) (v : Value) (l : List S) : Prop := w.ownsRow base 66 3 v l.length (flat l)

theorem info66 : (Try.prog.info? 66).map (fun i => (i.zero, i.size, i.bytes)) = some (some (.agg #[.int .u64 0, .int .u64 0, .int .i64 0]), 3, 24) := by kernel_rfl

theorem RowR.nil (w : World) (base : Nat) : RowR w base (.slice none 0 0) [] := World.ownsRow_nil w base 66 3
theorem RowR.alloc {w : World} {base : Nat} {v : Value} {l : List S} (h : RowR w base v l) (o : Obj) : RowR (w.alloc o) base v l := World.ownsRow.alloc h o
theorem RowR.drewN {w : World} {base : Nat} {v : Value} {l : List S} (h : RowR w base v l) (n : Nat) : RowR (w.drewN n) base v l := h
theorem RowR.grown {w w' : World} {base : Nat} {v : Value} {l : List S} (h : RowR w base v l) {row : Option Nat} (hg : w.grownBy w' row) (hne : v.ownBlock = none ∨ v.ownBlock ≠ row) : RowR w' base v l := World.ownsRow.kept h hg hne
theorem RowR.below {w w' : World} {base : Nat} {v : Value} {l : List S} (h : RowR w base v l) (hb : Below w.heap.size w w') : RowR w' base v l :=
  h.grown (grown_below hb none) (by cases v.ownBlock <;> simp)
theorem RowR.read {w : World} {base : Nat} {v : Value} {l : List S} (h : RowR w base v l) : ∃ A c, v = .slice A l.length c ∧
    ∀ i s, l[i]? = some s → ∃ g, A = some ⟨g, 0, none⟩ ∧ base ≤ g ∧ g < w.heap.size ∧ w.cell? ⟨g, i * 3, none⟩ = some (.int .u64 s.lo) ∧ w.cell? ⟨g, i * 3 + 1, none⟩ = some (.int .u64 s.hi) ∧ w.cell? ⟨g, i * 3 + 2, none⟩ = some (.int .i64 s.v) ∧
      w.frozen? ⟨g, i * 3 + 1, none⟩ = false := by
  obtain ⟨A, c, rfl⟩ := own_slice h
  refine ⟨A, c, rfl, fun i s hs => ?_⟩
  have hi : i < l.length := (List.getElem?_eq_some_iff.1 hs).1
  obtain ⟨g, cap, hv, hgb, hgl⟩ := World.ownsRow.form h (by omega)
  injection hv with hA hn hc
  subst hA
  subst hc
  obtain ⟨f0, f1, f2⟩ := flat_at l i s hs
  refine ⟨g, rfl, hgb, hgl, ?_, ?_, ?_, World.ownsRow.frozenAt h _⟩
  · rw [World.ownsRow.cellAt h _ (by omega)]; exact f0
  · rw [World.ownsRow.cellAt h _ (by omega)]; exact f1
  · rw [World.ownsRow.cellAt h _ (by omega)]; exact f2

/-- 'append' of one span of the reference's. -/
theorem app_ref {ops : Array Oper} {rest : List Oper} {o : Oper} {a : Act} {Q : Exit → Act → World → Prop} {W w0 : World} (B : Nat) (hgd : o.guard = none) (s x : Operand)
    (ho : o.op = .call { callee := .builtin .append, args := #[s, x], argTypes := #[61, 61] })
    (v : Value) (l : List S) (y : S) (hs : a.eval s = v) {H : Nat} (hx : a.eval x = .slice (some ⟨H, 0, none⟩) 1 1) (hH : W.heap.size = H)
    (HO : RowR W B v l) (hl : l.length ≤ 2000000000) (hb : Below B w0 W) (hB : B ≤ W.heap.size)
    (h : ∀ v' w', RowR w' B v' (l ++ [y]) → Below B w0 w' → B ≤ w'.heap.size → wpList Try.prog ops Q rest (a.put o.dst v') w') :
    wpList Try.prog ops Q (o :: rest) a (W.alloc (.cells #[.int .u64 y.lo, .int .u64 y.hi, .int .i64 y.v] 66)) := by
  subst hH
  obtain ⟨i0, hi, hz0, hz1, hz2⟩ := info_parts info66
  refine wpList_append_own_at (W.alloc _) hgd s x 61 ho B 66 i0 _ 3 24 Try.underlying61 hi hz0 hz1 hz2 rfl (by omega) v l.length (flat l) hs (World.ownsRow.alloc HO _) ⟨W.heap.size, 0, none⟩ 1 1
    [.int .u64 y.lo, .int .u64 y.hi, .int .i64 y.v] hx rfl (World.news_of_block (cs := #[.int .u64 y.lo, .int .u64 y.hi, .int .i64 y.v]) (t := 66) (fr := (0, 0)) (heap_alloc_new W _))
    (by simp [Value.oneCell']) (by simp only [maxLen]; omega) (by omega) (by simp; omega) ?_
  intro v1 w1 hown hg _ hat
  refine h v1 w1 ?_ ((hb.alloc hB _).grown hg (by simp; omega) (fun k hk => (World.ownsRow.lt HO k hk).1)) ?_
  · unfold RowR
    rw [flat_append, List.length_append]
    exact hown
  · have := hg.size
    simp at this
    omega

/-- The same at a step of a region that draws. -/
theorem step_ref {ops : Array Oper} {o : Oper} {a : Act} {K : Act → World → Prop} {Q : Exit → Act → World → Prop} {E : Prop} {W w0 : World} (B : Nat) (hgd : o.guard = none) (s x : Operand)
    (ho : o.op = .call { callee := .builtin .append, args := #[s, x], argTypes := #[61, 61] })
    (v : Value) (l : List S) (y : S) (hs : a.eval s = v) {H : Nat} (hx : a.eval x = .slice (some ⟨H, 0, none⟩) 1 1) (hH : W.heap.size = H)
    (HO : RowR W B v l) (hl : l.length ≤ 2000000000) (hb : Below B w0 W) (hB : B ≤ W.heap.size)
    (h : ∀ v' w', RowR w' B v' (l ++ [y]) → Below B w0 w' → B ≤ w'.heap.size → K (a.put o.dst v') w') :
    if Region.wanted o (yielded ops a.tmps) = true then Oper.wp Try.prog o a (W.alloc (.cells #[.int .u64 y.lo, .int .u64 y.hi, .int .i64 y.v] 66)) K Q else E := by
  subst hH
  obtain ⟨i0, hi, hz0, hz1, hz2⟩ := info_parts info66
  refine step_append_lies (W.alloc _) hgd s x 61 ho B 66 i0 _ 3 24 Try.underlying61 hi hz0 hz1 hz2 rfl (by omega) v l.length (flat l) hs (World.ownsRow.alloc HO _) ⟨W.heap.size, 0, none⟩ 1 1
    [.int .u64 y.lo, .int .u64 y.hi, .int .i64 y.v] hx rfl (World.news_of_block (cs := #[.int .u64 y.lo, .int .u64 y.hi, .int .i64 y.v]) (t := 66) (fr := (0, 0)) (heap_alloc_new W _))
    (by simp [Value.oneCell']) (by omega) (by simp only [maxLen]; omega) (by omega) (by simp; omega) _ rfl ?_
  intro g cap w1 hown hg _ _
  refine h _ w1 ?_ ((hb.alloc hB _).grown hg (by simp; omega) (fun k hk => (World.ownsRow.lt HO k hk).1)) ?_
  · unfold RowR
    rw [flat_append, List.length_append]
    exact hown
  · have := hg.size
    simp at this
    omega

theorem cell_alloc (w : World) (o : Obj) (a : Addr) (v : Value) (h : w.cell? a = some v) (hl : a.block < w.heap.size) : (w.alloc o).cell? a = some v :=
  (((Below.refl w.heap.size w).alloc (Nat.le_refl _) o).cell hl).trans h

/-- The last span's end is written anew. -/
theorem RowR.grow_last {w w0 : World} {B : Nat} {g c : Nat} {m : List S} {t : S} (h : RowR w B (.slice (some ⟨g, 0, none⟩) (m.length + 1) c) (m ++ [t])) (hi : Int) (hb : Below B w0 w) (hB : B ≤ w.heap.size) :
    RowR (w.setCell ⟨g, m.length * 3 + 1, none⟩ (.int .u64 hi)) B (.slice (some ⟨g, 0, none⟩) (m.length + 1) c) (m ++ [⟨t.lo, hi, t.v⟩]) ∧ Below B w0 (w.setCell ⟨g, m.length * 3 + 1, none⟩ (.int .u64 hi)) ∧ B ≤ (w.setCell ⟨g, m.length * 3 + 1, none⟩ (.int .u64 hi)).heap.size := by
  have hown : w.ownsRow B 66 3 (.slice (some ⟨g, 0, none⟩) (m.length + 1) c) (m.length + 1) (flat (m ++ [t])) := by
    unfold RowR at h
    simpa using h
  have hs := hown.stored (m.length * 3 + 1) (.int .u64 hi)
  refine ⟨?_, hb.grown hs.2 hB (fun k hk => (World.ownsRow.lt h k hk).1), by have := hs.2.size; omega⟩
  have := hs.1
  rw [flat_set_last] at this
  unfold RowR
  simpa using this

theorem RowR.mono {w : World} {B B' : Nat} {v : Value} {l : List S} (h : RowR w B v l) (hb : B' ≤ B) : RowR w B' v l :=
  ⟨h.1, h.2.imp id fun ⟨g, cap, cur, e1, e2, e3⟩ => ⟨g, cap, cur, e1, Nat.le_trans hb e2, e3⟩⟩

namespace M
theorem Cuts.flat {D : List Dn} {C : List Int} (h : Cuts D [] C) (hD : ∀ d ∈ D, d.ok) (hin : ∀ x ∈ C, 0 ≤ x ∧ x ≤ top) {i : Nat} {x : Int} (hx : C[i]? = some x) (k : Int) (h1 : x ≤ k) (h2 : k < bnd C (i + 1)) : fv D k = fv D x := by
  have hc := h.cut.next (fun x hx => (hin x hx).2) hx
  refine (fv_flat hD h1 (by omega) fun y hy => ?_).symm
  have hy' : y ∈ C := (h.mem y).2 (.inr (.inr hy))
  rcases hc.2.2 y hy' with h3 | h3
  · exact .inl h3
  · exact .inr (by omega)
theorem Cuts.first {D : List Dn} {C : List Int} (h : Cuts D [] C) (hin : ∀ x ∈ C, 0 ≤ x ∧ x ≤ top) : C[0]? = some 0 := by
  have h0 : (0 : Int) ∈ C := (h.mem 0).2 (.inr (.inl rfl))
  cases C with
  | nil => cases h0
  | cons y C =>
    rcases List.mem_cons.1 h0 with e | h0
    · simp [e]
    · have h1 := (List.pairwise_cons.1 h.cut).1 0 h0
      have := (hin y (by simp)).1
      omega
end M

/-- What the reference's Spans leaves. -/
def RSpans (w : World) (D : List M.Dn) (e : Ending) (w' : World) : Prop :=
  ∃ v l, e = .returned v ∧ RowR w' w.heap.size v l ∧ M.WF l ∧ (∀ k u, M.Has l k u ↔ M.fv D k = some u) ∧ l.length ≤ 2 * D.length + 1 ∧ Below w.heap.size w w'

set_option maxRecDepth 100000 in
set_option maxHeartbeats 4000000 in
theorem rspans_calls (w : World) (B p : Nat) (D : List M.Dn) (hD : RefAt w B p D) (hn : D.length ≤ 100000000) (hB0 : B ≤ w.heap.size) :
    Calls Try.prog 31 #[.pointer (some ⟨p, 0, none⟩)] w (RSpans w D) := by
  have hC := Lib.hid (cuts_calls w B p D (.slice none 0 0) [] hD ⟨World.ownsRow_nil _ _ _ _, by simp⟩ List.Pairwise.nil (by simp) hn hB0)
  go_enter Try.func31, Try.ntmps31
  go_wp2_with fail
  refine hC.out.mono ?_
  rintro e w1 ⟨vc, C, rfl, hRC, hMC, hB1⟩
  clear hC
  have hD1 := hD.below hB1
  have hB1s := hB1.size
  have hCl := hMC.len
  have hrd := hRC.read
  have hin : ∀ x ∈ C, 0 ≤ x ∧ x ≤ M.top := hRC.2
  have HCU := Lib.hid hMC.cut
  have HIN := Lib.hid hin
  have HFL := fun i x (hx : C[i]? = some x) => Lib.hid (hMC.flat hD.ok hin hx)
  have HF0 := Lib.hid (hMC.first hin)
  have hST := Lib.hid (M.Got.start (f := M.fv D) HF0.out)
  have HOK := Lib.hid hD.ok
  have HG := fun W (hb : Below w1.heap.size w1 W) x => Lib.hid (rget_calls W B p D x (hD1.below hb) (by omega))
  have HB1 := Lib.hid hB1
  clear hRC hMC hin hD hD1 hB1 HF0
  obtain ⟨A, c, rfl, hcell⟩ := hrd
  simp only [List.length_nil] at hCl
  generalize hnn : C.length = n at *
  have HN := Lib.hid hnn
  clear hnn
  have hn2 : n ≤ 200000001 := by omega
  go_wp2_with fail
  go_loopw [4, 5] (fun o i wr => ∃ (j : Nat) (l : List S), j ≤ n ∧ i = .int .i64 j ∧ RowR wr w1.heap.size o l ∧ Hid (M.Got (M.fv D) C j l) ∧ Below w1.heap.size w1 wr ∧ w1.heap.size ≤ wr.heap.size) (fun _ i _ => n - (intOf i).toNat)
  case atStart => exact ⟨0, [], Nat.zero_le _, rfl, RowR.nil _ _, hST, Below.refl _ _, Nat.le_refl _⟩
  case round =>
    obtain ⟨j, l, hj, rfl, hR, HM, hB, hBz⟩ := hrel
    have hll : l.length ≤ 1000000000 := by have := HM.out.2.1; omega
    clear hST
    by_cases hjn : j < n
    · obtain ⟨x, hx⟩ : ∃ x, C[j]? = some x := ⟨_, List.getElem?_eq_getElem (by rw [HN.out]; exact hjn)⟩
      have hcl2 : ∀ W, Below w1.heap.size w1 W → ∀ j x, C[j]? = some x → ∃ g, A = some ⟨g, 0, none⟩ ∧ W.cell? ⟨g, j, none⟩ = some (.int .u64 x) := by
        intro W hb j x hx
        obtain ⟨g, e, _, hg, hc⟩ := hcell j x hx
        exact ⟨g, e, (hb.cell (p := ⟨g, j, none⟩) hg).trans hc⟩
      have HEnd := fun W (hb : Below w1.heap.size w1 W) => Lib.hid (end_calls W n c A C j HN.out (by omega) hjn HIN.out (fun y hy => by have h1 := HCU.out.lt hx hy (by omega); have h2 := (HIN.out x (List.mem_of_getElem? hx)).1; omega) (hcl2 W hb))
      obtain ⟨g, rfl, _, hgl, c0⟩ := hcell j x hx
      have t0 := (hB.cell (p := ⟨g, j, none⟩) hgl).trans c0
      have hg1 := HG wr hB x
      have hx0 := (HIN.out x (List.mem_of_getElem? hx)).1
      have hx1 : x ≤ 18446744073709551615 := (HIN.out x (List.mem_of_getElem? hx)).2
      have HFX := HFL j x hx
      have HX := Lib.hid hx
      have C0 := Lib.hid c0
      clear hcell c0 hcl2 hx HFL HG
      cases hf : M.fv D x with
      | none =>
        have HM2 := Lib.hid (HM.out.skip HCU.out (fun x hx => (HIN.out x hx).2) HX.out HFX.out hf)
        rw [hf] at hg1
        clear hf
        go_wp2_with fail
        refine hg1.out.mono ?_
        rintro e w2 ⟨rfl, hb⟩
        dsimp only [Option.getD_none, Option.isSome_none]
        have hB2 := below_then hB hBz hb
        have hR2 := hR.below hb
        have hb2s := hb.size
        clear hg1 hB hR hb
        go_wp2_with fail
        go_roundw
        case rel => exact ⟨j + 1, l, by omega, by go_num, hR2, HM2.out, hB2, by omega⟩
        case measure => simp [intOf]; omega
      | some v =>
        have HM2 := Lib.hid (HM.out.add HCU.out HIN.out HX.out HFX.out hf)
        rw [hf] at hg1
        clear hf
        go_wp2_with fail
        refine hg1.out.mono ?_
        rintro e w2 ⟨rfl, hb⟩
        dsimp only [Option.getD_some, Option.isSome_some]
        have hB2 := below_then hB hBz hb
        have hR2 := hR.below hb
        have hb2s := hb.size
        have t0' := (hb.cell (p := ⟨g, j, none⟩) (by simp; omega)).trans t0
        have hlow : ∀ t ∈ l, t.hi < x := fun t ht => by have := HM.out.2.2.1 t ht; unfold M.bnd at this; rw [HX.out] at this; exact this
        have hlok : ∀ t ∈ l, 0 ≤ t.hi := fun t ht => by have := HM.out.1.1 t ht; unfold M.Sp.ok at this; omega
        clear hg1 hB hR hb t0
        have HR2 := Lib.hid hR2
        have HB2 := Lib.hid hB2
        clear hB2
        rcases M.snoc_cases l with rfl | ⟨m, t, rfl⟩
        · obtain ⟨Ar, cr, rfl, _⟩ := hR2.read
          have hg0 : decide ((0 : Int) < 0) = false := by simp
          clear hR2
          simp only [List.length_nil] at *
          rw [M.join_nil] at HM2
          go_wp2_with fail
          go_quiet (fail)
          go_wp2_with fail
          go_region_held_law (fun w' => w'.cell? ⟨g, j, none⟩ = some (Value.int IntKind.u64 x)) (first | exact t0' | exact (hB3.cell (p := ⟨g, j, none⟩) hgl).trans C0.out | exact cell_alloc _ _ ⟨g, j, none⟩ _ t0' (by simp; omega) | (simp; exact t0')) (first
            | (refine step_ref w1.heap.size rfl (.tmp 64) (.tmp 74) rfl (.slice Ar 0 cr) [] ⟨x, M.bnd C (j + 1) - 1, v⟩ rfl rfl (by simp) HR2.out (by simp) ⟨HB2.out.os, HB2.out.tape, HB2.out.output, HB2.out.size, HB2.out.block⟩ (by simp; omega) ?_; intro v' w3 hR3 hB3 hz3)
            | (go_simp; go_at_call 60; refine (HEnd (w2.drewN _) (below_drewN HB2.out _)).out.mono ?_; rintro e w' ⟨rfl, rfl⟩; go_simp))
          go_wp2_with fail
          go_roundw
          case rel => exact ⟨j + 1, _, by omega, by go_num, hR3, HM2.out, hB3, hz3⟩
          case measure => simp [intOf]; omega
        · have hlen : (m ++ [t]).length = m.length + 1 := by simp
          obtain ⟨Ar, cr, rfl, hread⟩ := hR2.read
          obtain ⟨gr, rfl, hbg, hgrl, r0, r1, r2, rf⟩ := hread m.length t (by simp)
          have ha := hlow t (by simp)
          have hb0 := hlok t (by simp)
          clear hread hR2 hlow hlok
          rw [M.join_snoc] at HM2
          rw [hlen] at HR2 hll ⊢
          have hml : Hid (m.length = m.length) := rfl
          have HGL := fun (hi : Int) W (h : RowR W w1.heap.size (.slice (some ⟨gr, 0, none⟩) (m.length + 1) cr) (m ++ [t])) (hb : Below w1.heap.size w1 W) (hB : w1.heap.size ≤ W.heap.size) => Lib.hid (h.grow_last hi hb hB)
          have hll2 : (m ++ [t]).length ≤ 2000000000 := by omega
          have HLL := Lib.hid hll2
          clear hlen hll2
          generalize m.length = ml at *
          have q0 : (0 : Int) < (ml : Int) + 1 := by omega
          have q1 : (0 : Int) ≤ (ml : Int) + 1 - 1 := by omega
          have q2 : (ml : Int) + 1 - 1 < (ml : Int) + 1 := by omega
          have q3 : (0 : Int) ≤ (j : Int) := by omega
          have q4 : (j : Int) < (n : Int) := by omega
          have q5 : IntKind.u64.wrap (t.hi + 1) = t.hi + 1 := by rw [IntKind.wrap_u64]; omega
          have q6 : decide ((0 : Int) < (ml : Int) + 1) = true := decide_eq_true q0
          by_cases hjv : t.hi + 1 = x ∧ t.v = v
          · rw [if_pos hjv] at HM2
            have p1 : (t.v == v) = true := by simpa using hjv.2
            have p2 : (t.hi + 1 == x) = true := by simpa using hjv.1
            clear hjv
            go_wp2_with fail
            go_quiet (fail)
            go_wp2_with fail
            refine (HEnd (w2.drewN _) (below_drewN HB2.out _)).out.mono ?_
            rintro e w' ⟨rfl, rfl⟩
            go_wp2_with fail
            have HGR := HGL (M.bnd C (j + 1) - 1) (w2.drewN nq) HR2.out (below_drewN HB2.out _) (by simp; omega)
            go_roundw
            case rel => exact ⟨j + 1, _, by omega, by go_num, HGR.out.1, HM2.out, HGR.out.2.1, HGR.out.2.2⟩
            case measure => simp [intOf]; omega
          · rw [if_neg hjv] at HM2
            by_cases hv : t.v = v
            · have p1 : (t.v == v) = true := by simpa using hv
              have p2 : (t.hi + 1 == x) = false := by simp; exact fun h => hjv ⟨h, hv⟩
              clear hjv hv
              go_wp2_with fail
              go_quiet (fail)
              go_wp2_with fail
              go_region_held_law (fun w' => w'.cell? ⟨g, j, none⟩ = some (Value.int IntKind.u64 x)) (first | exact t0' | exact (hB3.cell (p := ⟨g, j, none⟩) hgl).trans C0.out | exact cell_alloc _ _ ⟨g, j, none⟩ _ t0' (by simp; omega) | (simp; exact t0')) (first
                | (refine step_ref w1.heap.size rfl (.tmp 64) (.tmp 74) rfl (.slice (some ⟨gr, 0, none⟩) (ml + 1) cr) (m ++ [t]) ⟨x, M.bnd C (j + 1) - 1, v⟩ rfl rfl (by simp) HR2.out HLL.out ⟨HB2.out.os, HB2.out.tape, HB2.out.output, HB2.out.size, HB2.out.block⟩ (by simp; omega) ?_; intro v' w3 hR3 hB3 hz3)
                | (go_simp; go_at_call 60; refine (HEnd (w2.drewN _) (below_drewN HB2.out _)).out.mono ?_; rintro e w' ⟨rfl, rfl⟩; go_simp))
              go_wp2_with fail
              go_roundw
              case rel => exact ⟨j + 1, _, by omega, by go_num, hR3, HM2.out, hB3, hz3⟩
              case measure => simp [intOf]; omega
            · have p1 : (t.v == v) = false := by simpa using hv
              clear hjv hv
              go_wp2_with fail
              go_quiet (fail)
              go_wp2_with fail
              go_region_held_law (fun w' => w'.cell? ⟨g, j, none⟩ = some (Value.int IntKind.u64 x)) (first | exact t0' | exact (hB3.cell (p := ⟨g, j, none⟩) hgl).trans C0.out | exact cell_alloc _ _ ⟨g, j, none⟩ _ t0' (by simp; omega) | (simp; exact t0')) (first
                | (refine step_ref w1.heap.size rfl (.tmp 64) (.tmp 74) rfl (.slice (some ⟨gr, 0, none⟩) (ml + 1) cr) (m ++ [t]) ⟨x, M.bnd C (j + 1) - 1, v⟩ rfl rfl (by simp) HR2.out HLL.out ⟨HB2.out.os, HB2.out.tape, HB2.out.output, HB2.out.size, HB2.out.block⟩ (by simp; omega) ?_; intro v' w3 hR3 hB3 hz3)
                | (go_simp; go_at_call 60; refine (HEnd (w2.drewN _) (below_drewN HB2.out _)).out.mono ?_; rintro e w' ⟨rfl, rfl⟩; go_simp))
              go_wp2_with fail
              go_roundw
              case rel => exact ⟨j + 1, _, by omega, by go_num, hR3, HM2.out, hB3, hz3⟩
              case measure => simp [intOf]; omega
    · obtain rfl : j = n := by omega
      have HF := Lib.hid (show M.WF l ∧ (∀ k u, M.Has l k u ↔ M.fv D k = some u) ∧ l.length ≤ 2 * D.length + 1 by
        have h := HM.out
        rw [← HN.out] at h
        refine ⟨h.1, fun k u => ?_, by have := h.2.1; rw [HN.out] at this; omega⟩
        rw [h.all]
        exact ⟨fun h => h.2.2, fun h2 => ⟨(M.fv_in HOK.out h2).1, (M.fv_in HOK.out h2).2, h2⟩⟩)
      have HR := Lib.hid hR
      have HB := Lib.hid hB
      clear hcell hR hB
      go_wp2_with fail
      go_ret
      exact ⟨_, l, rfl, HR.out.mono (by omega), HF.out.1, HF.out.2.1, HF.out.2.2, below_then HB1.out (by omega) HB.out⟩

end Go.Proofs.Ythkolpjbkbcmbaa
