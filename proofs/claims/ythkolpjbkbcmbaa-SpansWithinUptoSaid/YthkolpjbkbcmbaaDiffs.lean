/- The walk of SpansDiffs. -/
import Derived.Test.YthkolpjbkbcmbaaRooms
set_option linter.unusedVariables false
set_option linter.unusedSimpArgs false
namespace Go.Proofs.Ythkolpjbkbcmbaa
open Go.RowKit

theorem RefAt.mono {w : World} {B B' p : Nat} {D : List M.Dn} (h : RefAt w B p D) (hb : B' ≤ B) : RefAt w B' p D := by
  obtain ⟨h1, h2, A, c, h3, h4⟩ := h
  exact ⟨Nat.le_trans hb h1, h2, A, c, h3, h4.1, h4.2.imp id fun ⟨g, cap, cur, e1, e2, e3⟩ => ⟨g, cap, cur, e1, Nat.le_trans hb e2, e3⟩⟩

theorem Same.val {L : List S} {D : List M.Dn} (h : Same L D) (k : Int) : val L k = M.fv D k := opt_same fun v => (val_has h.1 k v).symm.trans (h.2 k v)

/-- Two pairs of maps, and the reference's of none. -/
structure Pairs (B : Nat) (w0 : World) (pm pr pn ps po : Nat) (L1 L2 : List S) (D1 D2 : List M.Dn) (w : World) : Prop where
  two : Two B w0 pm pr L1 D1 w
  map : MapAt w 0 pn L2
  ref : RefAt w B ps D2
  none : RefAt w B po []

theorem Pairs.then {B : Nat} {w0 : World} {pm pr pn ps po : Nat} {L1 L2 : List S} {D1 D2 : List M.Dn} {w w' : World} (h : Pairs B w0 pm pr pn ps po L1 L2 D1 D2 w) (hb : Below w.heap.size w w') : Pairs B w0 pm pr pn ps po L1 L2 D1 D2 w' :=
  ⟨h.two.then hb, h.map.below hb, h.ref.below hb, h.none.below hb⟩

theorem equal_same {f g : Int → Option Int} {l l' : List Rm} (h : IsDiff f g l) {f' g' : Int → Option Int} (h' : IsDiff f' g' l') (hf : ∀ x, f x = f' x) (hg : ∀ x, g x = g' x) : l' = l := (h.one h' hf hg).symm

theorem val_nil (k : Int) : val [] k = none := val_none M.WF.nil fun v => M.has_nil k v

set_option maxRecDepth 100000 in
set_option maxHeartbeats 4000000 in
theorem diffs_core (w : World) (A1 A2 : Option Addr) (n1 n2 c1 c2 : Nat) (l1 l2 : List Opn) (hln1 : l1.length = n1) (hln2 : l2.length = n2) (hn1 : n1 ≤ 10000000) (hn2 : n2 ≤ 10000000) (hs1 : Script w A1 c1 l1) (hs2 : Script w A2 c2 l2) :
    Calls Try.prog 11 #[.slice A1 n1 c1, .slice A2 n2 c2] w fun e w' => e = .returned (.bool true) ∧ Below w.heap.size w w' := by
  have hL1 : (play l1).length ≤ 100000000 := by have := play_length hs1.2.2.1; omega
  have hD1 : (rplay l1).length ≤ 100000000 := by have := rplay_length l1; omega
  have hL2 : (play l2).length ≤ 100000000 := by have := play_length hs2.2.2.1; omega
  have hD2 : (rplay l2).length ≤ 100000000 := by have := rplay_length l2; omega
  have HM1 := Lib.hid (made_core w A1 n1 c1 l1 hln1 (by omega) hs1)
  have HM2 := fun W (hb : Below w.heap.size w W) => Lib.hid (made_core W A2 n2 c2 l2 hln2 (by omega) (hs2.below hb))
  clear hln1 hln2 hn1 hn2 hs1 hs2
  generalize play l1 = L1 at *
  generalize rplay l1 = D1 at *
  generalize play l2 = L2 at *
  generalize rplay l2 = D2 at *
  go_enter Try.func11, Try.ntmps11
  go_wp2_with fail
  refine HM1.out.mono ?_
  rintro e w1 ⟨pm, pr, rfl, hT1⟩
  have HT1 := Lib.hid hT1
  clear hT1 HM1
  go_wp2_with fail
  refine (HM2 _ HT1.out.below).out.mono ?_
  rintro e w2 ⟨pn, ps, rfl, hT2⟩
  have HT := Lib.hid (HT1.out.then hT2.below)
  have HMn := Lib.hid hT2.map
  have HRs := Lib.hid (hT2.ref.mono HT1.out.size)
  have hS1 := HT1.out.same
  have hS2 := hT2.same
  have HV1 := Lib.hid fun k => hS1.val k
  have HV2 := Lib.hid fun k => hS2.val k
  have HS1 := Lib.hid hS1
  have HS2 := Lib.hid hS2
  clear hT2 HM2 HT1 hS1 hS2
  go_wp2_with fail
  refine (live_calls _).mono ?_
  rintro e w3 ⟨rfl, hb⟩
  have hP : Pairs w.heap.size w pm pr pn ps w3.heap.size L1 L2 D1 D2 (w3.alloc (.cells #[.slice none 0 0] 49)) :=
    ⟨(HT.out.then hb).box _, (HMn.out.below hb).alloc _, (HRs.out.below hb).below ((Below.refl _ _).alloc (Nat.le_refl _) _), ref_new w3 _ (HT.out.then hb).size⟩
  have HP := Lib.hid hP
  have HDf := fun W q1 q2 K1 K2 (h1 : MapOpt W q1 K1) (h2 : MapOpt W q2 K2) (hW1 : M.WF K1) (hW2 : M.WF K2) (a : K1.length ≤ 100000000) (b : K2.length ≤ 100000000) => Lib.hid (diff_calls W q1 q2 K1 K2 h1 h2 hW1 hW2 (by omega) (by omega))
  have HEq := fun W q1 q2 K1 K2 (h1 : MapOpt W q1 K1) (h2 : MapOpt W q2 K2) (hW1 : M.WF K1) (hW2 : M.WF K2) (a : K1.length ≤ 100000000) (b : K2.length ≤ 100000000) => Lib.hid (equal_calls W q1 q2 K1 K2 h1 h2 hW1 hW2 (by omega) (by omega))
  have HRd := fun W p1 p2 K1 K2 (h1 : RefAt W w.heap.size p1 K1) (h2 : RefAt W w.heap.size p2 K2) (a : K1.length ≤ 100000000) (b : K2.length ≤ 100000000) (hs : w.heap.size ≤ W.heap.size) => Lib.hid (rdiff_calls W w.heap.size p1 p2 K1 K2 h1 h2 a b hs)
  have HRm := fun W b1 b2 v v' L (h : RowM W b1 v L) (h' : RowM W b2 v' L) (a : L.length ≤ 1000000000) => Lib.hid (rooms_calls W b1 b2 v v' L h h' a)
  clear hP hb HT HMn HRs
  go_wp2_with fail
  refine (HRd _ _ _ _ _ HP.out.two.ref HP.out.ref hD1 hD2 HP.out.two.size).out.mono ?_
  rintro e w4 ⟨vd, ld, rfl, hR, hI, hl, hb⟩
  obtain ⟨Ad, cd, rfl, _⟩ := hR.read
  have HP4 := Lib.hid (HP.out.then hb)
  have HRw := Lib.hid hR
  have HI := Lib.hid hI
  have hll : ld.length ≤ 1000000000 := by omega
  clear hR hI hl hb HP
  go_wp2_with fail
  refine (HDf _ _ _ _ _ (.inr ⟨pm, rfl, HP4.out.two.map⟩) (.inr ⟨pn, rfl, HP4.out.map⟩) HS1.out.1 HS2.out.1 hL1 hL2).out.mono ?_
  rintro e w5 ⟨v5, l5, rfl, hR, hI, hl, hb⟩
  obtain rfl : l5 = ld := equal_same HI.out hI (fun x => (HV1.out x).symm) (fun x => (HV2.out x).symm)
  have HP5 := Lib.hid (HP4.out.then hb)
  have HRw5 := Lib.hid (HRw.out.below hb)
  have HR5 := Lib.hid hR
  clear hR hI hl hb HP4 HRw
  go_wp2_with fail
  refine (HRm _ _ _ _ _ _ HR5.out HRw5.out hll).out.mono ?_
  rintro e w6 ⟨rfl, hb⟩
  have HP6 := Lib.hid (HP5.out.then hb)
  have HRw6 := Lib.hid (HRw5.out.below hb)
  clear hb HP5 HRw5 HR5
  go_wp2_with fail
  refine (HDf _ _ _ _ _ (.inr ⟨pn, rfl, HP6.out.map⟩) (.inr ⟨pm, rfl, HP6.out.two.map⟩) HS2.out.1 HS1.out.1 hL2 hL1).out.mono ?_
  rintro e w7 ⟨v7, l7, rfl, hR, hI, hl, hb⟩
  obtain rfl : l7 = l5 := equal_same HI.out hI.symm (fun x => (HV1.out x).symm) (fun x => (HV2.out x).symm)
  have HP7 := Lib.hid (HP6.out.then hb)
  have HRw7 := Lib.hid (HRw6.out.below hb)
  have HR7 := Lib.hid hR
  clear hR hI hl hb HP6 HRw6
  go_wp2_with fail
  refine (HRm _ _ _ _ _ _ HR7.out HRw7.out hll).out.mono ?_
  rintro e w8 ⟨rfl, hb⟩
  have HP8 := Lib.hid (HP7.out.then hb)
  clear hb HP7 HRw7 HR7
  go_wp2_with fail
  refine (HEq _ _ _ _ _ (.inr ⟨pm, rfl, HP8.out.two.map⟩) (.inr ⟨pn, rfl, HP8.out.map⟩) HS1.out.1 HS2.out.1 hL1 hL2).out.mono ?_
  rintro e w9 ⟨l9, hI, rfl, hb⟩
  obtain rfl : l9 = l7 := equal_same HI.out hI (fun x => (HV1.out x).symm) (fun x => (HV2.out x).symm)
  have HP9 := Lib.hid (HP8.out.then hb)
  have HCl := fun W (hM : MapAt W 0 pm L1) => Lib.hid (clone_calls W pm L1 hM (by omega))
  clear hb HP8 hI HI
  go_wp2_with fail
  refine (HCl _ HP9.out.two.map).out.mono ?_
  rintro e w10 ⟨q, hq, rfl, hM, hb⟩
  have HP10 := Lib.hid (HP9.out.then hb)
  have HQ10 := Lib.hid hM
  clear hb HP9 hM HCl hq
  go_wp2_with fail
  refine (HEq _ _ _ _ _ (.inr ⟨pm, rfl, HP10.out.two.map⟩) (.inr ⟨q, rfl, HQ10.out⟩) HS1.out.1 HS1.out.1 hL1 hL1).out.mono ?_
  rintro e w11 ⟨l11, hI, rfl, hb⟩
  obtain rfl : l11 = [] := equal_same (IsDiff.nil (fun _ => rfl)) hI (fun x => rfl) (fun x => rfl)
  have HP11 := Lib.hid (HP10.out.then hb)
  have HQ11 := Lib.hid (HQ10.out.below hb)
  clear hb HP10 hI HQ10
  simp only [List.length_nil]
  go_wp2_with fail
  refine (HDf _ _ _ _ _ (.inr ⟨q, rfl, HQ11.out⟩) (.inr ⟨pm, rfl, HP11.out.two.map⟩) HS1.out.1 HS1.out.1 hL1 hL1).out.mono ?_
  rintro e w12 ⟨v12, l12, rfl, hR, hI, hl, hb⟩
  obtain rfl : l12 = [] := equal_same (IsDiff.nil (fun _ => rfl)) hI (fun x => rfl) (fun x => rfl)
  obtain ⟨A12, c12, rfl, _⟩ := hR.read
  have HP12 := Lib.hid (HP11.out.then hb)
  have HQ12 := Lib.hid (HQ11.out.below hb)
  have HSp := fun W (hM : MapAt W 0 q L1) => Lib.hid (spans_any W q L1 hM (by omega))
  have HRs := fun W (hR : RefAt W w.heap.size pr D1) (hB : w.heap.size ≤ W.heap.size) => Lib.hid (rspans_same W w.heap.size pr D1 L1 hR hD1 hB HS1.out)
  have HAl := fun W b1 b2 c c' A A' (hR : RowAt W b1 (.slice A L1.length c) L1) (hR' : RowR W b2 (.slice A' L1.length c') L1) => Lib.hid (alike_calls W b1 b2 L1.length c c' A A' L1 hR hR' rfl (by omega))
  clear hb HP11 hI HQ11 hR hl
  simp only [List.length_nil]
  go_wp2_with fail
  refine (HSp _ HQ12.out).out.mono ?_
  rintro e w13 ⟨A13, b13, rfl, hR, hb⟩
  have HP13 := Lib.hid (HP12.out.then hb)
  have HR13 := Lib.hid hR
  clear hb HP12 HQ12 hR HSp
  go_wp2_with fail
  refine (HRs _ HP13.out.two.ref HP13.out.two.size).out.mono ?_
  rintro e w14 ⟨A14, c14, rfl, hR, _, hb⟩
  have HP14 := Lib.hid (HP13.out.then hb)
  have HR14 := Lib.hid hR
  have HR13' := Lib.hid (HR13.out.below hb)
  clear hb HP13 hR HRs HR13
  go_wp2_with fail
  refine (HAl w14 _ _ _ _ _ _ HR13'.out HR14.out).out.mono ?_
  rintro e w15 ⟨rfl, hb⟩
  have HP15 := Lib.hid (HP14.out.then hb)
  clear hb HP14 HR14 HR13' HAl
  go_wp2_with fail
  refine (HRd _ _ _ _ _ HP15.out.two.ref HP15.out.none hD1 (by simp) HP15.out.two.size).out.mono ?_
  rintro e w16 ⟨v16, l16, rfl, hR, hI, hl, hb⟩
  obtain ⟨A16, c16, rfl, _⟩ := hR.read
  have HP16 := Lib.hid (HP15.out.then hb)
  have HRw16 := Lib.hid hR
  have HI16 := Lib.hid hI
  have hl16 : l16.length ≤ 1000000000 := by simp at hl; omega
  clear hR hI hl hb HP15 HRd
  go_wp2_with fail
  refine (HDf _ _ _ _ _ (.inr ⟨pm, rfl, HP16.out.two.map⟩) (.inl ⟨rfl, rfl⟩) HS1.out.1 M.WF.nil hL1 (by simp)).out.mono ?_
  rintro e w17 ⟨v17, l17, rfl, hR, hI, hl, hb⟩
  obtain rfl : l17 = l16 := equal_same HI16.out hI (fun x => (HV1.out x).symm) (fun x => (val_nil x).symm)
  have HP17 := Lib.hid (HP16.out.then hb)
  have HRw17 := Lib.hid (HRw16.out.below hb)
  have HR17 := Lib.hid hR
  clear hR hI hl hb HP16 HRw16
  go_wp2_with fail
  refine (HRm _ _ _ _ _ _ HR17.out HRw17.out hl16).out.mono ?_
  rintro e w18 ⟨rfl, hb⟩
  have HP18 := Lib.hid (HP17.out.then hb)
  have HRw18 := Lib.hid (HRw17.out.below hb)
  clear hb HP17 HRw17 HR17
  go_wp2_with fail
  refine (HDf _ _ _ _ _ (.inl ⟨rfl, rfl⟩) (.inr ⟨pm, rfl, HP18.out.two.map⟩) M.WF.nil HS1.out.1 (by simp) hL1).out.mono ?_
  rintro e w19 ⟨v19, l19, rfl, hR, hI, hl, hb⟩
  obtain rfl : l19 = l17 := equal_same HI16.out hI.symm (fun x => (HV1.out x).symm) (fun x => (val_nil x).symm)
  have HP19 := Lib.hid (HP18.out.then hb)
  have HRw19 := Lib.hid (HRw18.out.below hb)
  have HR19 := Lib.hid hR
  clear hR hI hl hb HP18 HRw18
  go_wp2_with fail
  refine (HRm _ _ _ _ _ _ HR19.out HRw19.out hl16).out.mono ?_
  rintro e w20 ⟨rfl, hb⟩
  have HP20 := Lib.hid (HP19.out.then hb)
  clear hb HP19 HRw19 HR19
  go_wp2_with fail
  refine (HEq _ _ _ _ _ (.inr ⟨pm, rfl, HP20.out.two.map⟩) (.inl ⟨rfl, rfl⟩) HS1.out.1 M.WF.nil hL1 (by simp)).out.mono ?_
  rintro e w21 ⟨l21, hI, rfl, hb⟩
  obtain rfl : l21 = l19 := equal_same HI16.out hI (fun x => (HV1.out x).symm) (fun x => (val_nil x).symm)
  have HP21 := Lib.hid (HP20.out.then hb)
  clear hb HP20 hI HI16
  go_wp2_with fail
  refine (HEq _ _ _ _ _ (.inl ⟨rfl, rfl⟩) (.inl ⟨rfl, rfl⟩) M.WF.nil M.WF.nil (by simp) (by simp)).out.mono ?_
  rintro e w22 ⟨l22, hI, rfl, hb⟩
  obtain rfl : l22 = [] := equal_same (IsDiff.nil (fun _ => rfl)) hI (fun x => rfl) (fun x => rfl)
  have HP22 := Lib.hid (HP21.out.then hb)
  clear hb HP21 hI
  simp only [List.length_nil]
  go_wp2_with fail
  go_ret
  exact ⟨by simp, HP22.out.two.below⟩

end Go.Proofs.Ythkolpjbkbcmbaa
