/- The walk of the reference's Diff. -/
import Derived.Test.YthkolpjbkbcmbaaDiff
import Derived.Deep.AppendLies
import Derived.Deep.RegionHeldLaw
set_option linter.unusedVariables false
set_option linter.unusedSimpArgs false
namespace Go.Proofs.Ythkolpjbkbcmbaa
open Go.RowKit

theorem step_room {ops : Array Oper} {o : Oper} {a : Act} {K : Act → World → Prop} {Q : Exit → Act → World → Prop} {E : Prop} {W w0 : World} (B : Nat) (hgd : o.guard = none) (s x : Operand)
    (ho : o.op = .call { callee := .builtin .append, args := #[s, x], argTypes := #[87, 87] })
    (v : Value) (l : List Rm) (lo hi : Int) (hs : a.eval s = v) {H : Nat} (hx : a.eval x = .slice (some ⟨H, 0, none⟩) 1 1) (hH : W.heap.size = H)
    (HO : RowM W B v l) (hl : l.length ≤ 2000000000) (hb : Below B w0 W) (hB : B ≤ W.heap.size)
    (h : ∀ v' w', RowM w' B v' (l ++ [⟨lo, hi, ()⟩]) → Below B w0 w' → B ≤ w'.heap.size → K (a.put o.dst v') w') :
    if Region.wanted o (yielded ops a.tmps) = true then Oper.wp Try.prog o a (W.alloc (.cells #[.int .u64 lo, .int .u64 hi] 90)) K Q else E := by
  subst hH
  obtain ⟨i0, hi0, hz0, hz1, hz2⟩ := info_parts info90
  refine step_append_lies (W.alloc _) hgd s x 87 ho B 90 i0 _ 2 16 Try.underlying87 hi0 hz0 hz1 hz2 rfl (by omega) v l.length (flatM l) hs (World.ownsRow.alloc HO _) ⟨W.heap.size, 0, none⟩ 1 1
    [.int .u64 lo, .int .u64 hi] hx rfl (World.news_of_block (cs := #[.int .u64 lo, .int .u64 hi]) (t := 90) (fr := (0, 0)) (heap_alloc_new W _))
    (by simp [Value.oneCell']) (by omega) (by simp only [maxLen]; omega) (by omega) (by simp; omega) _ rfl ?_
  intro g cap w1 hown hg _ _
  refine h _ w1 ?_ ((hb.alloc hB _).grown hg (by simp; omega) (fun k hk => (World.ownsRow.lt HO k hk).1)) ?_
  · unfold RowM
    rw [flatM_append, List.length_append]
    exact hown
  · have := hg.size
    simp at this
    omega

namespace M
theorem Cuts.flat2 {D1 D2 : List Dn} {C1 C2 : List Int} (h1 : Cuts D1 [] C1) (h2 : Cuts D2 C1 C2) (hD1 : ∀ d ∈ D1, d.ok) (hD2 : ∀ d ∈ D2, d.ok) (hin : ∀ x ∈ C2, 0 ≤ x ∧ x ≤ top) {i : Nat} {x : Int} (hx : C2[i]? = some x) (k : Int) (a : x ≤ k) (b : k < bnd C2 (i + 1)) :
    part2 (fv D1) (fv D2) k = part2 (fv D1) (fv D2) x := by
  have hc := h2.cut.next (fun x hx => (hin x hx).2) hx
  have e1 : fv D1 x = fv D1 k := fv_flat hD1 a (by omega) fun y hy => by
    rcases hc.2.2 y ((h2.mem y).2 (.inl ((h1.mem y).2 (.inr (.inr hy))))) with h3 | h3
    · exact .inl h3
    · exact .inr (by omega)
  have e2 : fv D2 x = fv D2 k := fv_flat hD2 a (by omega) fun y hy => by
    rcases hc.2.2 y ((h2.mem y).2 (.inr (.inr hy))) with h3 | h3
    · exact .inl h3
    · exact .inr (by omega)
  unfold part2
  rw [e1, e2]
theorem Cuts.first2 {D : List Dn} {C1 C : List Int} (h : Cuts D C1 C) (hin : ∀ x ∈ C, 0 ≤ x ∧ x ≤ top) : C[0]? = some 0 := by
  have h0 : (0 : Int) ∈ C := (h.mem 0).2 (.inr (.inl rfl))
  cases C with
  | nil => cases h0
  | cons y C =>
    rcases List.mem_cons.1 h0 with e | h0
    · simp [e]
    · have h1 := (List.pairwise_cons.1 h.cut).1 0 h0
      have := (hin y (by simp)).1
      omega
theorem Got.diff {f g : Int → Option Int} {C : List Int} {l : List Rm} (h : Got (part2 f g) C C.length l) : IsDiff f g l := by
  refine ⟨h.1, fun x u => ?_⟩
  rw [h.all]
  unfold part2
  constructor
  · rintro ⟨a, b, c⟩
    refine ⟨a, b, fun e => ?_⟩
    rw [if_pos e] at c; cases c
  · rintro ⟨a, b, c⟩
    exact ⟨a, b, by rw [if_neg c]⟩
end M

theorem none_get (a : Option Int) : a.isSome = false → a.getD 0 = 0 := by cases a <;> simp

/-- What the reference's Diff answers. -/
def RDiffOut (w : World) (D1 D2 : List M.Dn) (e : Ending) (w' : World) : Prop :=
  ∃ v l, e = .returned v ∧ RowM w' w.heap.size v l ∧ IsDiff (M.fv D1) (M.fv D2) l ∧ l.length ≤ 2 * D1.length + 2 * D2.length + 2 ∧ Below w.heap.size w w'

set_option maxRecDepth 100000 in
set_option maxHeartbeats 4000000 in
theorem rdiff_calls (w : World) (B p1 p2 : Nat) (D1 D2 : List M.Dn) (hD1 : RefAt w B p1 D1) (hD2 : RefAt w B p2 D2) (hn1 : D1.length ≤ 100000000) (hn2 : D2.length ≤ 100000000) (hB0 : B ≤ w.heap.size) :
    Calls Try.prog 50 #[.pointer (some ⟨p1, 0, none⟩), .pointer (some ⟨p2, 0, none⟩)] w (RDiffOut w D1 D2) := by
  have hC := Lib.hid (cuts_calls w B p1 D1 (.slice none 0 0) [] hD1 ⟨World.ownsRow_nil _ _ _ _, by simp⟩ List.Pairwise.nil (by simp) hn1 hB0)
  go_enter Try.func50, Try.ntmps50
  go_wp2_with fail
  refine hC.out.mono ?_
  rintro e wa ⟨va, C1, rfl, hRa, hMa, hBa⟩
  have hCl1 := hMa.len
  simp only [List.length_nil] at hCl1
  have hC2 := Lib.hid (cuts_calls wa B p2 D2 va C1 (hD2.below hBa) hRa hMa.cut (by omega) hn2 (by have := hBa.size; omega))
  have HMa := Lib.hid hMa
  clear hC hRa hMa
  go_wp2_with fail
  refine hC2.out.mono ?_
  rintro e w1 ⟨vc, C, rfl, hRC, hMC, hB1'⟩
  have hB1 : Below w.heap.size w w1 := below_then hBa hBa.size hB1'
  clear hC2 hB1' hBa
  have hE1 := hD1.below hB1
  have hE2 := hD2.below hB1
  have hB1s := hB1.size
  have hCl := hMC.len
  have hrd := hRC.read
  have hin : ∀ x ∈ C, 0 ≤ x ∧ x ≤ M.top := hRC.2
  have HCU := Lib.hid hMC.cut
  have HIN := Lib.hid hin
  have HFL := fun i x (hx : C[i]? = some x) => Lib.hid (HMa.out.flat2 hMC hD1.ok hD2.ok hin hx)
  have HF0 := Lib.hid (hMC.first2 hin)
  have hST := Lib.hid (M.Got.start (f := part2 (M.fv D1) (M.fv D2)) HF0.out)
  have HG1 := fun W (hb : Below w1.heap.size w1 W) x => Lib.hid (rget_calls W B p1 D1 x (hE1.below hb) (by omega))
  have HG2 := fun W (hb : Below w1.heap.size w1 W) x => Lib.hid (rget_calls W B p2 D2 x (hE2.below hb) (by omega))
  have HB1 := Lib.hid hB1
  clear hRC hMC hin hD1 hD2 hE1 hE2 hB1 HF0 HMa
  obtain ⟨A, c, rfl, hcell⟩ := hrd
  generalize hnn : C.length = n at *
  have HN := Lib.hid hnn
  clear hnn
  have hn2 : n ≤ 400000002 := by omega
  have HCL := Lib.hid (show n ≤ 2 * D1.length + 2 * D2.length + 2 by omega)
  clear hCl hCl1
  go_wp2_with fail
  go_loopw [6, 7] (fun o i wr => ∃ (j : Nat) (l : List Rm), j ≤ n ∧ i = .int .i64 j ∧ RowM wr w1.heap.size o l ∧ Hid (M.Got (part2 (M.fv D1) (M.fv D2)) C j l) ∧ Below w1.heap.size w1 wr ∧ w1.heap.size ≤ wr.heap.size) (fun _ i _ => n - (intOf i).toNat)
  case atStart => exact ⟨0, [], Nat.zero_le _, rfl, RowM.nil _ _, hST, Below.refl _ _, Nat.le_refl _⟩
  case round =>
    obtain ⟨j, l, hj, rfl, hR, HM, hB, hBz⟩ := hrel
    have hll : l.length ≤ 1000000000 := by have := HM.out.2.1; omega
    clear hST
    by_cases hjn : j < n
    · obtain ⟨x, hx⟩ : ∃ x, C[j]? = some x := ⟨_, List.getElem?_eq_getElem (by rw [HN.out]; exact hjn)⟩
      have hcl2 : ∀ W, Below w1.heap.size w1 W → ∀ j x, C[j]? = some x → ∃ g, A = some ⟨g, 0, none⟩ ∧ W.cell? ⟨g, j, none⟩ = some (.int .u64 x) := by
        intro W hb j x hx
        obtain ⟨g, e, _, hg, hc⟩ := hcell j x hx
        exact ⟨g, e, (hb.cell (p := ⟨g, j, none⟩) hg).trans hc⟩
      have HEnd := fun W (hb : Below w1.heap.size w1 W) => Lib.hid (end_calls W n c A C j HN.out (by omega) hjn HIN.out (fun y hy => by have h1 := HCU.out.lt hx hy (by omega); have h2 := (HIN.out x (List.mem_of_getElem? hx)).1; omega) (hcl2 W hb))
      obtain ⟨g, rfl, _, hgl, c0⟩ := hcell j x hx
      have t0 := (hB.cell (p := ⟨g, j, none⟩) hgl).trans c0
      have hg1 := HG1 wr hB x
      have hx0 := (HIN.out x (List.mem_of_getElem? hx)).1
      have hx1 : x ≤ 18446744073709551615 := (HIN.out x (List.mem_of_getElem? hx)).2
      have HFX := HFL j x hx
      have HX := Lib.hid hx
      have C0 := Lib.hid c0
      clear hcell c0 hcl2 hx HFL HG1
      go_wp2_with fail
      refine hg1.out.mono ?_
      rintro e w2 ⟨rfl, hb⟩
      have hB2 := below_then hB hBz hb
      have hR2 := hR.below hb
      have hb2s := hb.size
      have t0' := (hb.cell (p := ⟨g, j, none⟩) (by simp; omega)).trans t0
      have hg2 := HG2 w2 hB2 x
      clear hg1 hB hR hb t0 HG2
      go_wp2_with fail
      refine hg2.out.mono ?_
      rintro e w3 ⟨rfl, hb⟩
      have hB3 := below_then hB2 (by omega) hb
      have hR3 := hR2.below hb
      have hb3s := hb.size
      have t0 := (hb.cell (p := ⟨g, j, none⟩) (by simp; omega)).trans t0'
      have HR2 := Lib.hid hR3
      have HB2 := Lib.hid hB3
      have hz3 : w1.heap.size ≤ w3.heap.size := by omega
      clear hg2 hB2 hR2 hb t0' hB3 hR3
      have HN1 := Lib.hid (none_get (M.fv D1 x))
      have HN2 := Lib.hid (none_get (M.fv D2 x))
      have HQ := Lib.hid (sat_neq (a := M.fv D1 x) (b := M.fv D2 x))
      generalize (M.fv D1 x).isSome = b1 at *
      generalize (M.fv D1 x).getD 0 = v1 at *
      generalize (M.fv D2 x).isSome = b2 at *
      generalize (M.fv D2 x).getD 0 = v2 at *
      go_upto_region 8 with fail
      go_cut [52] from 17 to 89 (fun c wx => ∃ bb : Bool, c = .bool bb ∧ (bb = true ↔ M.fv D1 x = M.fv D2 x) ∧ wx = w3)
      case first =>
        cases b1 <;> cases b2
        · have HD := Lib.hid (show true = true ↔ M.fv D1 x = M.fv D2 x by
            have h1 := HN1.out rfl
            have h2 := HN2.out rfl
            simp only [HQ.out, h1, h2]; decide)
          go_wp2_with fail
          go_meet
          exact ⟨_, rfl, by simpa using HD.out, rfl⟩
        · have HD := Lib.hid (show false = true ↔ M.fv D1 x = M.fv D2 x by rw [HQ.out]; simp)
          go_wp2_with fail
          go_meet
          exact ⟨_, rfl, by simpa using HD.out, rfl⟩
        · have HD := Lib.hid (show false = true ↔ M.fv D1 x = M.fv D2 x by rw [HQ.out]; simp)
          go_wp2_with fail
          go_meet
          exact ⟨_, rfl, by simpa using HD.out, rfl⟩
        · go_wp2_with fail
          go_meet
          refine ⟨_, rfl, ?_, rfl⟩
          rw [HQ.out]
          simp
      case rest =>
        obtain ⟨bb, rfl, hbb, hww⟩ := hcut
        subst hww
        have HBD := Lib.hid hbb
        have t0' := t0
        clear hbb t0
        cases bb with
        | true =>
          have HM2 := Lib.hid (HM.out.skip HCU.out (fun x hx => (HIN.out x hx).2) HX.out HFX.out (by unfold part2; exact if_pos (by have h := HBD.out; simpa using h)))
          go_wp2_with fail
          go_roundw
          case rel => exact ⟨j + 1, l, by omega, by go_num, HR2.out, HM2.out, HB2.out, hz3⟩
          case measure => simp [intOf]; omega
        | false =>
          have HM2 := Lib.hid (HM.out.add HCU.out HIN.out HX.out HFX.out (v := ()) (by unfold part2; exact if_neg (by have h := HBD.out; simpa using h)))
          have hlow : ∀ t ∈ l, t.hi < x := fun t ht => by have := HM.out.2.2.1 t ht; unfold M.bnd at this; rw [HX.out] at this; exact this
          have hlok : ∀ t ∈ l, 0 ≤ t.hi := fun t ht => by have := HM.out.1.1 t ht; unfold M.Sp.ok at this; omega
          clear HM HFX
          rcases M.snoc_cases l with rfl | ⟨m, t, rfl⟩
          · obtain ⟨Ar, cr, hv, _⟩ := HR2.out.read
            subst hv
            have hg0 : decide ((0 : Int) < 0) = false := by simp
            rw [M.join_nil] at HM2
            simp only [List.length_nil] at *
            go_wp2_with fail
            go_quiet (fail)
            go_wp2_with fail
            go_region_held_law (fun w' => w'.cell? ⟨g, j, none⟩ = some (Value.int IntKind.u64 x)) (first | exact t0' | exact (hB3.cell (p := ⟨g, j, none⟩) hgl).trans C0.out | exact cell_alloc _ _ ⟨g, j, none⟩ _ t0' (by simp; omega) | (simp; exact t0')) (first
              | (refine step_room w1.heap.size rfl (.tmp 79) (.tmp 88) rfl (.slice Ar 0 cr) [] x (M.bnd C (j + 1) - 1) rfl rfl (by simp) HR2.out (by simp) ⟨HB2.out.os, HB2.out.tape, HB2.out.output, HB2.out.size, HB2.out.block⟩ (by simp; omega) ?_; intro v' w3 hR3 hB3 hz3)
              | (go_simp; go_at_call 60; refine (HEnd (wc.drewN _) (below_drewN HB2.out _)).out.mono ?_; rintro e w' ⟨rfl, rfl⟩; go_simp))
            go_wp2_with fail
            go_roundw
            case rel => exact ⟨j + 1, _, by omega, by go_num, hR3, HM2.out, hB3, hz3⟩
            case measure => simp [intOf]; omega
          · have hlen : (m ++ [t]).length = m.length + 1 := by simp
            obtain ⟨Ar, cr, hv, hread⟩ := HR2.out.read
            subst hv
            obtain ⟨gr, rfl, hbg, hgrl, r0, r1, rf⟩ := hread m.length t (by simp)
            have ha := hlow t (by simp)
            have hb0 := hlok t (by simp)
            clear hread hlow hlok
            rw [M.join_snoc] at HM2
            rw [hlen] at HR2 hll ⊢
            have HGL := fun (hi : Int) W (h : RowM W w1.heap.size (.slice (some ⟨gr, 0, none⟩) (m.length + 1) cr) (m ++ [t])) (hb : Below w1.heap.size w1 W) (hB : w1.heap.size ≤ W.heap.size) => Lib.hid (h.grow_last hi hb hB)
            have HLL := Lib.hid (show (m ++ [t]).length ≤ 2000000000 by omega)
            clear hlen
            generalize m.length = ml at *
            have q0 : (0 : Int) < (ml : Int) + 1 := by omega
            have q1 : (0 : Int) ≤ (ml : Int) + 1 - 1 := by omega
            have q2 : (ml : Int) + 1 - 1 < (ml : Int) + 1 := by omega
            have q3 : (0 : Int) ≤ (j : Int) := by omega
            have q4 : (j : Int) < (n : Int) := by omega
            have q5 : IntKind.u64.wrap (t.hi + 1) = t.hi + 1 := by rw [IntKind.wrap_u64]; omega
            have q6 : decide ((0 : Int) < (ml : Int) + 1) = true := decide_eq_true q0
            by_cases hjv : t.hi + 1 = x
            · rw [if_pos ⟨hjv, rfl⟩] at HM2
              have p2 : (t.hi + 1 == x) = true := by simpa using hjv
              clear hjv
              go_wp2_with fail
              go_quiet (fail)
              go_wp2_with fail
              refine (HEnd (wc.drewN _) (below_drewN HB2.out _)).out.mono ?_
              rintro e w' ⟨rfl, rfl⟩
              go_wp2_with fail
              have HGR := HGL (M.bnd C (j + 1) - 1) (wc.drewN nq) HR2.out (below_drewN HB2.out _) (by simp; omega)
              go_roundw
              case rel => exact ⟨j + 1, _, by omega, by go_num, HGR.out.1, HM2.out, HGR.out.2.1, HGR.out.2.2⟩
              case measure => simp [intOf]; omega
            · rw [if_neg (fun h => hjv h.1)] at HM2
              have p2 : (t.hi + 1 == x) = false := by simpa using hjv
              clear hjv
              go_wp2_with fail
              go_quiet (fail)
              go_wp2_with fail
              go_region_held_law (fun w' => w'.cell? ⟨g, j, none⟩ = some (Value.int IntKind.u64 x)) (first | exact t0' | exact (hB3.cell (p := ⟨g, j, none⟩) hgl).trans C0.out | exact cell_alloc _ _ ⟨g, j, none⟩ _ t0' (by simp; omega) | (simp; exact t0')) (first
                | (refine step_room w1.heap.size rfl (.tmp 79) (.tmp 88) rfl (.slice (some ⟨gr, 0, none⟩) (ml + 1) cr) (m ++ [t]) x (M.bnd C (j + 1) - 1) rfl rfl (by simp) HR2.out HLL.out ⟨HB2.out.os, HB2.out.tape, HB2.out.output, HB2.out.size, HB2.out.block⟩ (by simp; omega) ?_; intro v' w3 hR3 hB3 hz3)
                | (go_simp; go_at_call 60; refine (HEnd (wc.drewN _) (below_drewN HB2.out _)).out.mono ?_; rintro e w' ⟨rfl, rfl⟩; go_simp))
              go_wp2_with fail
              go_roundw
              case rel => exact ⟨j + 1, _, by omega, by go_num, hR3, HM2.out, hB3, hz3⟩
              case measure => simp [intOf]; omega
    · obtain rfl : j = n := by omega
      have HF := Lib.hid (show IsDiff (M.fv D1) (M.fv D2) l ∧ l.length ≤ 2 * D1.length + 2 * D2.length + 2 by
        have h := HM.out
        have h2 := h.2.1
        have h3 := HCL.out
        rw [← HN.out] at h
        exact ⟨h.diff, by omega⟩)
      have HR := Lib.hid hR
      have HB := Lib.hid hB
      clear hcell hR hB
      go_wp2_with fail
      go_ret
      exact ⟨_, l, rfl, HR.out.mono (by omega), HF.out.1, HF.out.2, below_then HB1.out (by omega) HB.out⟩

end Go.Proofs.Ythkolpjbkbcmbaa
