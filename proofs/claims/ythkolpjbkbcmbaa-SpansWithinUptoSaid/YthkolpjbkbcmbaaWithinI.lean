/- SpansWithin: the iterator: what Within hands back, as a contract for every loop's body. -/
import Derived.Test.YthkolpjbkbcmbaaWithinM
import Derived.RangeFuncNested
import Derived.RangeFuncBound
import Derived.RangeFuncCalls
import Derived.RangeFuncLeaves
import Derived.Shelf.Abstract
import Derived.Shelf.RegionOpen
import Derived.OwnWalkIn
import Derived.TacticsInMore
import Derived.LoopNIn
import Derived.LoopIn
import Derived.Deep.RegionHeldLaw
set_option linter.unusedVariables false
set_option linter.unusedSimpArgs false
namespace Go.Proofs.Ythkolpjbkbcmbaa
open Go.RowKit
attribute [local go_sem] Oper.semAt_some

/-- What a round keeps: all cells but those of the blocks of X; and X takes in no old block. -/
structure Kept (X : World → Nat → Prop) (W W' : World) : Prop where
  size : W.heap.size ≤ W'.heap.size
  same : ∀ k cs t fr, W.heap[k]? = some (.cells cs t fr) → ¬ X W k → W'.heap[k]? = W.heap[k]?
  grow : ∀ k, k < W.heap.size → X W' k → X W k
theorem Kept.refl (X : World → Nat → Prop) (W : World) : Kept X W W := ⟨Nat.le_refl _, fun _ _ _ _ _ _ => rfl, fun _ _ h => h⟩
theorem Kept.trans {X : World → Nat → Prop} {A B C : World} (h : Kept X A B) (k : Kept X B C) : Kept X A C := by
  refine ⟨Nat.le_trans h.size k.size, fun i cs t fr hi hx => ?_, fun i hi hx => h.grow i hi (k.grow i (Nat.lt_of_lt_of_le hi h.size) hx)⟩
  have h1 := h.same i cs t fr hi hx
  have hl : i < A.heap.size := (Array.getElem?_eq_some_iff.1 hi).1
  exact (k.same i cs t fr (h1.trans hi) (fun hx' => hx (h.grow i hl hx'))).trans h1
theorem Kept.boxed {X : World → Nat → Prop} {W W' : World} {B : Nat} {t : TypeId} {v : Value} (h : Kept X W W') (hb : Boxed W B t v) (hx : ¬ X W B) : Boxed W' B t v := (h.same B _ _ _ hb hx).trans hb
theorem Kept.row {X : World → Nat → Prop} {W W' : World} {B g n c : Nat} {L : List S} (h : Kept X W W') (hr : RowAt W B (.slice (some ⟨g, 0, none⟩) n c) L) (hx : ¬ X W g) : RowAt W' B (.slice (some ⟨g, 0, none⟩) n c) L := by
  refine ⟨hr.1, hr.2.imp id fun ⟨g', cap, cur, e1, e2, e3, e4⟩ => ⟨g', cap, cur, e1, e2, ?_, e4⟩⟩
  injection e1 with e1 _ _
  injection e1 with e1
  injection e1 with e1 _ _
  subst e1
  exact (h.same g cur 34 _ e3 hx).trans e3

theorem below_of_drew {W w1 : World} (h : Below W.drew.heap.size W.drew w1) : Below W.heap.size W w1 := ⟨h.os, h.tape, h.output, h.size, h.block⟩

def enS (s : S) : Array Value := #[.agg #[.int .u64 s.lo, .int .u64 s.hi, .int .i64 s.v]]

theorem wthn_ends {lo hi : Int} (h : ¬ hi < lo) {L : List S} (hW : M.WF L) : ∀ (d j : Nat), L.length - (idx L lo + j) = d → idx L lo + j ≤ L.length → (∀ i s, i < j → L[idx L lo + i]? = some s → s.lo ≤ hi) →
    ∃ j', j ≤ j' ∧ wthn lo hi L = ((L.drop (idx L lo)).take j').map (clip lo hi)
  | 0, j, hd, hj, hin => ⟨j, Nat.le_refl _, wthn_from h hW hj hin (.inl (by omega))⟩
  | d + 1, j, hd, hj, hin => by
    obtain ⟨s, hs⟩ : ∃ s, L[idx L lo + j]? = some s := ⟨_, List.getElem?_eq_getElem (by omega)⟩
    by_cases hlo : hi < s.lo
    · exact ⟨j, Nat.le_refl _, wthn_from h hW hj hin (.inr ⟨s, hs, hlo⟩)⟩
    · obtain ⟨j', h1, h2⟩ := wthn_ends h hW d (j + 1) (by omega) (by omega) (fun i t hi' ht => by
        by_cases e : i = j
        · subst e; rw [hs] at ht; injection ht with ht; subst ht; omega
        · exact hin i t (by omega) ht)
      exact ⟨j', by omega, h2⟩
theorem wthn_pre {lo hi : Int} (h : ¬ hi < lo) {L : List S} (hW : M.WF L) (j : Nat) (hj : idx L lo + j ≤ L.length) (hin : ∀ i s, i < j → L[idx L lo + i]? = some s → s.lo ≤ hi) :
    ((L.drop (idx L lo)).take j).map (clip lo hi) <+: wthn lo hi L ∧ (((L.drop (idx L lo)).take j).map (clip lo hi)).length = j := by
  obtain ⟨j', h1, h2⟩ := wthn_ends h hW _ j rfl hj hin
  refine ⟨?_, by simp; omega⟩
  rw [h2]
  have e : (L.drop (idx L lo)).take j = ((L.drop (idx L lo)).take j').take j := by rw [List.take_take, Nat.min_eq_left h1]
  rw [e]
  exact (List.take_prefix _ _).map _

set_option maxRecDepth 100000 in
set_option maxHeartbeats 4000000 in
/-- Within hands back a value of function 62 over three boxes. -/
theorem within_calls (w : World) (p : Option Addr) (lo hi : Int) :
    Calls Try.prog 42 #[.pointer p, .int .u64 lo, .int .u64 hi] w fun e w' => e = .returned (.func (.func 62) #[] #[.pointer (some ⟨w.heap.size + 1, 0, none⟩), .pointer (some ⟨w.heap.size + 2, 0, none⟩), .pointer (some ⟨w.heap.size, 0, none⟩)]) ∧
      Boxed w' w.heap.size 24 (.pointer p) ∧ Boxed w' (w.heap.size + 1) 27 (.int .u64 lo) ∧ Boxed w' (w.heap.size + 2) 27 (.int .u64 hi) ∧ Below w.heap.size w w' := by
  have b0 := ((Boxed.new w 24 (.pointer p)).alloc (.cells #[.int .u64 lo] 27)).alloc (.cells #[.int .u64 hi] 27)
  have b1 := (Boxed.new (w.alloc (.cells #[.pointer p] 24)) 27 (.int .u64 lo)).alloc (.cells #[.int .u64 hi] 27)
  have b2 := Boxed.new ((w.alloc (.cells #[.pointer p] 24)).alloc (.cells #[.int .u64 lo] 27)) 27 (.int .u64 hi)
  have hb := (((Below.refl w.heap.size w).alloc (Nat.le_refl _) (.cells #[.pointer p] 24)).alloc (by simp) (.cells #[.int .u64 lo] 27)).alloc (by simp; omega) (.cells #[.int .u64 hi] 27)
  simp only [World.size_alloc] at b1 b2
  have H0 := Lib.hid b0
  have H1 := Lib.hid b1
  have H2 := Lib.hid b2
  have HB := Lib.hid hb
  clear b0 b1 b2 hb
  go_enter Try.func42, Try.ntmps42
  go_wp2_with fail
  go_ret
  exact ⟨rfl, H0.out, H1.out, H2.out, HB.out⟩

set_option maxRecDepth 100000 in
set_option maxHeartbeats 4000000 in
theorem within1_core (X : World → Nat → Prop) (w W : World) (B1 B2 B3 pm l n : Nat) (L : List S) (lo hi : Int) (J Jx : List S → World → Prop)
    (hM : MapAt w 0 pm L) (hWF : M.WF L) (hL : L.length ≤ 1000000000) (b1 : Boxed w B1 27 (.int .u64 lo)) (b2 : Boxed w B2 27 (.int .u64 hi)) (b3 : Boxed w B3 24 (.pointer (some ⟨pm, 0, none⟩)))
    (hX0 : ∀ W, Below w.heap.size w W → ∀ k, X W k → k < w.heap.size ∧ k ≠ B1 ∧ k ≠ B2)
    (hXg : ∀ W W', w.heap.size ≤ W.heap.size → W.grownBy W' none → ∀ k, k < W.heap.size → X W' k → X W k)
    (hW : Below w.heap.size w W) (hJ : AbidesFrom W.heap.size J) (hJx : AbidesFrom W.heap.size Jx)
    (hY : ∀ pre x W1, J pre W1 → pre.length < (wthn lo hi L).length → YieldAt Fence.wide (n - 1) Try.prog l (enS x) W1 fun e W' =>
      (e = .returned (.bool true) ∧ J (pre ++ [x]) W' ∧ Kept X W1 W') ∨ (e = .returned (.bool false) ∧ Jx (pre ++ [x]) W'))
    (h0 : J [] W) :
    Calls Try.prog 62 #[.func (.yield l) #[] #[], .pointer (some ⟨B1, 0, none⟩), .pointer (some ⟨B2, 0, none⟩), .pointer (some ⟨B3, 0, none⟩)] W fun e W' => (∃ v, e = .returned v) ∧ ((∃ xs, xs = wthn lo hi L ∧ J xs W') ∨ (∃ pre, pre <+: wthn lo hi L ∧ Jx pre W')) := by
  have c1 := (hW.cell (p := ⟨B1, 0, none⟩) b1.lt).trans b1.cell
  have c2 := (hW.cell (p := ⟨B2, 0, none⟩) b2.lt).trans b2.cell
  have c3 := (hW.cell (p := ⟨B3, 0, none⟩) b3.lt).trans b3.cell
  by_cases hlh : hi < lo
  · have HE := Lib.hid (show wthn lo hi L = [] by unfold wthn; rw [if_pos hlh])
    have HZ := Lib.hid h0
    clear hJ hJx hY h0
    go_enter Try.func62, Try.ntmps62
    go_wp2_with fail
    refine bodyPost_ret (results_none rfl _ _ _) rfl ?_
    exact ⟨⟨_, rfl⟩, .inl ⟨[], HE.out.symm, HZ.out⟩⟩
  · have HSp := fun W' (h : MapAt W' 0 pm L) => Lib.hid (spans_calls W' pm L h hL)
    have HFr := fun W' (h : MapAt W' 0 pm L) => Lib.hid (from_calls W' 0 pm L lo h hWF hL)
    have hI := Below.refl W.heap.size W
    have HMW := Lib.hid (hM.below hW)
    have HY := Lib.hid hY
    have HJ := Lib.hid hJ
    have HZ := Lib.hid h0
    have H1 : Hid (Boxed W B1 27 (.int .u64 lo)) := (hW.block B1 b1.lt).trans b1
    have H2 : Hid (Boxed W B2 27 (.int .u64 hi)) := (hW.block B2 b2.lt).trans b2
    have hB1 := b1.lt
    have hB2 := b2.lt
    have hB3 := b3.lt
    have hWz := hW.size
    clear hJ hJx hY h0
    have hF := idx_le L lo
    have HIn := Lib.hid (fun j hj => @wthn_from lo hi hlh L hWF j hj)
    have HPre := Lib.hid (fun j hj => @wthn_pre lo hi hlh L hWF j hj)
    generalize hnl : L.length = nl at *
    have HNL := Lib.hid hnl
    clear hnl
    generalize hff : idx L lo = F at *
    have HFF := Lib.hid hff
    clear hff
    have hb1W : B1 < W.heap.size := Nat.lt_of_lt_of_le hB1 hWz
    have hb3W : B3 < W.heap.size := Nat.lt_of_lt_of_le hB3 hWz
    go_enter Try.func62, Try.ntmps62
    go_upto_region 1 with fail
    go_region_held_law (fun w' => w'.cell? ⟨B1, 0, none⟩ = some (.int .u64 lo) ∧ w'.cell? ⟨B3, 0, none⟩ = some (.pointer (some ⟨pm, 0, none⟩)))
      (first | exact ⟨c1, c3⟩ | exact ⟨(hb.cell (p := ⟨B1, 0, none⟩) hb1W).trans c1, (hb.cell (p := ⟨B3, 0, none⟩) hb3W).trans c3⟩)
      (first
        | (go_simp; go_at_call 36; refine (HSp W.drew HMW.out).out.mono ?_; rintro e w1 ⟨rfl, hR, hb⟩; change RowAt w1 W.heap.size (.slice (some ⟨W.heap.size, 0, none⟩) nl nl) L at hR; replace hb := below_of_drew hb; go_simp)
        | (go_simp; go_at_call 53; refine (HFr w1 (HMW.out.below hb)).out.mono ?_; rintro e w2 ⟨rfl, nq, rfl⟩; go_simp))
    have hBc : Below W.heap.size W (w1.drewN nq) := below_drewN hb nq
    have hRc : RowAt (w1.drewN nq) W.heap.size (.slice (some ⟨W.heap.size, 0, none⟩) nl nl) L := hR
    generalize w1.drewN nq = V0 at *
    have HR := Lib.hid hRc
    have hXc := hX0 V0 (hW.trans (hBc.mono hWz))
    have x1 : ¬ X V0 B1 := fun h => (hXc _ h).2.1 rfl
    have x2 : ¬ X V0 B2 := fun h => (hXc _ h).2.2 rfl
    have x3 : ¬ X V0 W.heap.size := fun h => by have := (hXc _ h).1; omega
    have HX1 := Lib.hid x1
    have HX2 := Lib.hid x2
    have HX3 := Lib.hid x3
    have hcz := hBc.size
    have HC1 : Hid (Boxed V0 B1 27 (.int .u64 lo)) := (hBc.block B1 hb1W).trans H1.out
    have HC2 : Hid (Boxed V0 B2 27 (.int .u64 hi)) := (hBc.block B2 (by omega)).trans H2.out
    have HJg : Hid (∀ pre A B, J pre A → A.grownBy B none → J pre B) := fun pre A B h hg => HJ.out pre A B none h hg (fun r e => by cases e)
    have HXg := Lib.hid hXg
    have HJc : Hid (J [] V0) := HJg.out [] W V0 HZ.out ⟨hBc.os, hBc.tape, hBc.output, hBc.size, fun k hk _ => hBc.block k hk⟩
    obtain ⟨AA, hAA⟩ : ∃ AA, AA = (if nl = F then some (⟨W.heap.size, 0, none⟩ : Addr) else some ⟨W.heap.size, F * 3, none⟩) := ⟨_, rfl⟩
    rw [← hAA]
    have HAA := Lib.hid (show F < nl → AA = some ⟨W.heap.size, F * 3, none⟩ from fun h => by rw [hAA, if_neg (by omega)])
    clear hAA hBc hRc hb hR hXc x1 x2 x3 HZ H1 H2 c1 c2 c3 hI HMW HSp HFr hX0 hXg b1 b2 b3 hM
    go_wp2_with fail
    go_loopw [17] (fun i wr => ∃ j : Nat, F + j ≤ nl ∧ i = .int .i64 j ∧ Hid (J (((L.drop F).take j).map (clip lo hi)) wr) ∧ Hid (Kept X V0 wr) ∧ Hid (∀ (i : Nat) (s : S), i < j → L[F + i]? = some s → s.lo ≤ hi)) (fun i _ => nl - F - (intOf i).toNat)
    case atStart => exact ⟨0, hF, rfl, HJc.out, Kept.refl _ _, fun i s h => by omega⟩
    case round =>
      obtain ⟨j, hj, rfl, HJr, HK, HLo⟩ := hrel
      by_cases hjn : F + j < nl
      · obtain ⟨s, hs⟩ : ∃ s, L[F + j]? = some s := ⟨_, List.getElem?_eq_getElem (by rw [HNL.out]; exact hjn)⟩
        obtain ⟨_, _, hv, _, _, hcell⟩ := (HK.out.row HR.out HX3.out).read
        injection hv with e1 e2 e3
        subst e1; subst e3
        clear e2
        obtain ⟨_, e1, _, _, s0, s1, s2, _⟩ := hcell (F + j) s hs
        injection e1 with e1; injection e1 with e1 _ _; subst e1
        rw [show (F + j) * 3 = F * 3 + j * 3 by omega] at s0 s1 s2
        have e := HAA.out (by omega)
        subst e
        have b1 := HK.out.boxed HC1.out HX1.out
        have b2 := HK.out.boxed HC2.out HX2.out
        have k1 := b1.cell
        have k2 := b2.cell
        have q3 : (0 : Int) ≤ (j : Int) := by omega
        have q4 : (j : Int) < ((nl - F : Nat) : Int) := by omega
        have hB1r := b1.lt
        have hB2r := b2.lt
        have d1 : ¬ B1 = wr.heap.size := by omega
        have d2 : ¬ B2 = wr.heap.size := by omega
        have HS := Lib.hid hs
        clear hcell hs b1 b2
        by_cases h2 : hi < s.lo
        · have HE := Lib.hid (HIn.out j hj HLo.out (.inr ⟨s, HS.out, h2⟩))
          have HJa := Lib.hid (HJg.out _ _ _ HJr.out (World.grownBy_alloc wr (.cells #[.int .u64 s.lo, .int .u64 s.hi, .int .i64 s.v] 34) none))
          go_wp2_with fail
          refine bodyPost_ret (results_none rfl _ _ _) rfl ?_
          exact ⟨⟨_, rfl⟩, .inl (by rw [HE.out]; exact HJa.out)⟩
        · go_upto_region 5 with fail
          have r1 : ∀ o, (wr.alloc o).cell? ⟨B1, 0, none⟩ = some (.int .u64 lo) := fun o => cell_alloc _ _ _ _ k1 hB1r
          have r2 : ∀ o, (wr.alloc o).cell? ⟨B2, 0, none⟩ = some (.int .u64 hi) := fun o => cell_alloc _ _ _ _ k2 hB2r
          go_cut [] from 25 to 34 (fun wx => wx = (wr.alloc (.cells #[.int .u64 (clip lo hi s).lo, .int .u64 (clip lo hi s).hi, .int .i64 (clip lo hi s).v] 34)).drew)
          case first =>
            go_region
            all_goals (go_wp2_with fail)
            all_goals go_meet
            all_goals (simp only [clip]; (repeat' split) <;> first | rfl | (exfalso; omega))
          case rest =>
            have hg : wr.grownBy (wr.alloc (.cells #[.int .u64 (clip lo hi s).lo, .int .u64 (clip lo hi s).hi, .int .i64 (clip lo hi s).v] 34)).drew none :=
              have h := World.grownBy_alloc wr (.cells #[.int .u64 (clip lo hi s).lo, .int .u64 (clip lo hi s).hi, .int .i64 (clip lo hi s).v] 34) none
              ⟨h.os, h.tape, h.output, h.size, h.block⟩
            have hx : V0.heap.size ≤ wr.heap.size := HK.out.size
            have HKa : Hid (Kept X wr (wr.alloc (.cells #[.int .u64 (clip lo hi s).lo, .int .u64 (clip lo hi s).hi, .int .i64 (clip lo hi s).v] 34)).drew) :=
              ⟨hg.size, fun k cs t fr hk hx => hg.block k (Array.getElem?_eq_some_iff.1 hk).1 (by simp), fun k hk hx => HXg.out wr _ (by omega) hg k hk hx⟩
            have HJa := Lib.hid (HJg.out _ _ _ HJr.out hg)
            have HBx : Hid ((wr.alloc (.cells #[.int .u64 (clip lo hi s).lo, .int .u64 (clip lo hi s).hi, .int .i64 (clip lo hi s).v] 34)).drew.heap[wr.heap.size]? = some (.cells #[.int .u64 (clip lo hi s).lo, .int .u64 (clip lo hi s).hi, .int .i64 (clip lo hi s).v] 34)) := heap_alloc_new wr _
            rw [← hcut] at hg HKa HJa HBx
            clear hcut hg r1 r2 k1 k2 s0 s1 s2
            have HLo2 : Hid (∀ (i : Nat) (s : S), i < j + 1 → L[F + i]? = some s → s.lo ≤ hi) := fun i t hi' ht => by
              by_cases e : i = j
              · subst e; have := HS.out; rw [this] at ht; injection ht with ht; subst ht; omega
              · exact HLo.out i t (by omega) ht
            have hp1 := HPre.out j hj HLo.out
            have hp2 := HPre.out (j + 1) (by omega) HLo2.out
            have HEq := Lib.hid (show ((L.drop F).take (j + 1)).map (clip lo hi) = ((L.drop F).take j).map (clip lo hi) ++ [clip lo hi s] by
              rw [M.take_snoc (l := L.drop F) (k := j) (x := s) (by rw [List.getElem?_drop]; exact HS.out), List.map_append]; rfl)
            have hlen : (((L.drop F).take j).map (clip lo hi)).length < (wthn lo hi L).length := by have := hp2.1.length_le; have := hp1.2; have := hp2.2; omega
            have hYr := HY.out _ (clip lo hi s) wc HJa.out hlen
            rw [← HEq.out] at hYr
            have HPf := Lib.hid hp2.1
            obtain ⟨fn, tmps, assign, body, hy, hR⟩ := hYr
            unfold enS at hy
            have b0 : wc.cell? ⟨wr.heap.size, 0, none⟩ = some (.int .u64 (clip lo hi s).lo) := by simp [cell_of_row wc _ 0 _ _ _ HBx.out]
            have b1 : wc.cell? ⟨wr.heap.size, 1, none⟩ = some (.int .u64 (clip lo hi s).hi) := by simp [cell_of_row wc _ 1 _ _ _ HBx.out]
            have b2 : wc.cell? ⟨wr.heap.size, 2, none⟩ = some (.int .i64 (clip lo hi s).v) := by simp [cell_of_row wc _ 2 _ _ _ HBx.out]
            clear hp1 hp2 hlen HJr HEq HLo HS HBx
            generalize clip lo hi s = x at *
            have HRd := Lib.hid hR
            clear hR
            go_upto_region 6 with fail
            refine (wpIn_wide (n := n)).1 ?_
            gi_wp2
            refine ⟨fun h => by simp [Fence.wide] at h, ?_⟩
            refine HRd.out.mono ?_
            rintro e W3 (⟨rfl, hJ3, hk3⟩ | ⟨rfl, hJx3⟩)
            · have HJ3 := Lib.hid hJ3
              have HK3 := Lib.hid ((HK.out.trans HKa.out).trans hk3)
              clear hJ3 hk3 HRd HY hy
              gi_wp2
              go_wp2_with fail
              go_roundw
              case rel => exact ⟨j + 1, by omega, by go_num, HJ3, HK3, HLo2⟩
              case measure => simp [intOf]; omega
            · have HJ3 := Lib.hid hJx3
              clear hJx3 HRd HY hy
              gi_wp2
              go_wp2_with fail
              refine bodyPost_ret (results_none rfl _ _ _) rfl ?_
              exact ⟨⟨_, rfl⟩, .inr ⟨_, HPf.out, HJ3.out⟩⟩
      · obtain rfl : j = nl - F := by omega
        have HE := Lib.hid (HIn.out (nl - F) hj HLo.out (.inl (by omega)))
        go_wp2_with fail
        go_end0
        exact ⟨⟨_, rfl⟩, .inl ⟨_, HE.out.symm, HJr.out⟩⟩

/-- **What Within hands back goes through what lies from lo to hi, whatever the loop's body does outside the iterator's own cells.** -/
theorem within_stops (X : World → Nat → Prop) (w : World) (B1 B2 B3 pm n : Nat) (L : List S) (lo hi : Int)
    (hM : MapAt w 0 pm L) (hWF : M.WF L) (hL : L.length ≤ 1000000000) (b1 : Boxed w B1 27 (.int .u64 lo)) (b2 : Boxed w B2 27 (.int .u64 hi)) (b3 : Boxed w B3 24 (.pointer (some ⟨pm, 0, none⟩)))
    (hX0 : ∀ W, Below w.heap.size w W → ∀ k, X W k → k < w.heap.size ∧ k ≠ B1 ∧ k ≠ B2)
    (hXg : ∀ W W', w.heap.size ≤ W.heap.size → W.grownBy W' none → ∀ k, k < W.heap.size → X W' k → X W k) :
    SeqStopsK Fence.wide n Try.prog 62 #[.pointer (some ⟨B1, 0, none⟩), .pointer (some ⟨B2, 0, none⟩), .pointer (some ⟨B3, 0, none⟩)] enS (Kept X) (fun xs => xs = wthn lo hi L) (fun pre => pre <+: wthn lo hi L) (wthn lo hi L).length w :=
  fun l J Jx W hW hJ hJx hY h0 => callsIn_wide.2 (within1_core X w W B1 B2 B3 pm l n L lo hi J Jx hM hWF hL b1 b2 b3 hX0 hXg hW hJ hJx hY h0)

end Go.Proofs.Ythkolpjbkbcmbaa
