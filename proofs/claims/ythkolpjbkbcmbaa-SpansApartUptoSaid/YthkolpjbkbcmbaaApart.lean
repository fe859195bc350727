/- The walk of SpansApart. -/
import Derived.Test.YthkolpjbkbcmbaaApartK
import Derived.Test.YthkolpjbkbcmbaaDiffs
import Derived.BigRegion
import Derived.Deep.CutBlock
import Derived.Deep.CutRange
set_option linter.unusedVariables false
set_option linter.unusedSimpArgs false
namespace Go.Proofs.Ythkolpjbkbcmbaa
open Go.RowKit

theorem step_clr (L : List S) (o : Opn) : step L (clr o) = if o.kind = 1 then put L o.lo o.hi (some o.val) else put L o.lo o.hi none := by
  unfold clr step
  by_cases h : o.kind = 1
  · rw [if_pos h, if_pos h, if_pos h]
  · rw [if_neg h, if_neg h]; simp
theorem play_append (l m : List Opn) : play (l ++ m) = m.foldl step (play l) := by simp [play]

/-- Three maps. -/
structure Three (w0 : World) (pm pn pc : Nat) (L C : List S) (w : World) : Prop where
  m : MapAt w 0 pm L
  n : MapAt w 0 pn L
  c : MapAt w 0 pc C
  below : Below w0.heap.size w0 w
  size : w0.heap.size ≤ w.heap.size
theorem Three.then {w0 : World} {pm pn pc : Nat} {L C : List S} {w w' : World} (h : Three w0 pm pn pc L C w) (hb : Below w.heap.size w w') : Three w0 pm pn pc L C w' :=
  ⟨h.m.below hb, h.n.below hb, h.c.below hb, below_then h.below h.size hb, Nat.le_trans h.size hb.size⟩
theorem Three.turn {w0 : World} {pm pn pc : Nat} {L C C' : List S} {w w' : World} (h : Three w0 pm pn pc L C w) (hc : MapAt w' 0 pc C') (hg : w.grownBy w' (some pc)) (h1 : pm ≠ pc) (h2 : pn ≠ pc) (h3 : w0.heap.size ≤ pc) : Three w0 pm pn pc L C' w' :=
  ⟨h.m.other h.c h1 hg, h.n.other h.c h2 hg, hc, h.below.grown hg h.size (fun k hk => by injection hk with hk; omega), Nat.le_trans h.size hg.size⟩

set_option maxRecDepth 100000 in
set_option maxHeartbeats 10000000 in
theorem apart_core (w : World) (A1 A2 : Option Addr) (n1 n2 c1 c2 : Nat) (l1 l2 : List Opn) (hln1 : l1.length = n1) (hln2 : l2.length = n2) (hn1 : n1 ≤ 10000000) (hn2 : n2 ≤ 10000000) (hs1 : Script w A1 c1 l1) (hs2 : Script w A2 c2 l2) (hsrc1 : Src A1 n1 c1) :
    Calls Try.prog 12 #[.slice A1 n1 c1, .slice A2 n2 c2] w fun e w' => e = .returned (.bool true) ∧ Below w.heap.size w w' := by
  have hW := play_wf hs1.2.2.1
  have hL : (play l1).length ≤ 20000000 := by have := play_length hs1.2.2.1; omega
  have HLaid := fun W (hb : Below w.heap.size w W) => Lib.hid (laid_core W A1 n1 c1 l1 hln1 (by omega) (hs1.below hb))
  have HS1 := Lib.hid hs1
  have HS2 := Lib.hid hs2
  have HN1 := Lib.hid hln1
  have HN2 := Lib.hid hln2
  have HPlay := Lib.hid (fun m => play_append l1 m)
  have HFold := Lib.hid (show ∀ k, M.WF ((l2.take k).foldl (fun L o => step L (clr o)) (play l1)) ∧ ((l2.take k).foldl (fun L o => step L (clr o)) (play l1)).length ≤ 40000000 by
    intro k
    have h := foldl_step (l := (l2.take k).map clr) (L := play l1) hW (fun o ho => by
      obtain ⟨o', ho', rfl⟩ := List.mem_map.1 ho
      exact clr_ok (hs2.2.2.1 _ (List.mem_of_mem_take ho')))
    rw [List.foldl_map] at h
    refine ⟨h.1, ?_⟩
    have h2 : ((l2.take k).foldl (fun L o => step L (clr o)) (play l1)).length ≤ (play l1).length + 2 * ((l2.take k).map clr).length := h.2
    have h3 := List.length_take_le' k l2
    simp only [List.length_map] at h2
    omega)
  clear hs1 hs2 hln1 hln2
  generalize play l1 = L at *
  have HW := Lib.hid hW
  clear hW
  go_enter Try.func12, Try.ntmps12
  go_wp2_with fail
  refine (HLaid _ (Below.refl _ _)).out.mono ?_
  rintro e w1 ⟨rfl, hM, hB⟩
  have HM1 := Lib.hid hM
  have HB1 := Lib.hid hB
  clear hM hB
  go_wp2_with fail
  refine (HLaid _ HB1.out).out.mono ?_
  rintro e w2 ⟨rfl, hM, hB⟩
  have HM2 := Lib.hid (HM1.out.below hB)
  have HN2' := Lib.hid hM
  have HB2 := Lib.hid (below_then HB1.out HB1.out.size hB)
  have hmn : w.heap.size < w1.heap.size := HM1.out.lt
  clear hM hB HM1 HB1
  generalize w1.heap.size = pn at *
  go_wp2_with fail
  refine (live_calls _).mono ?_
  rintro e w3 ⟨rfl, hb⟩
  have HM3 := Lib.hid (HM2.out.below hb)
  have HN3 := Lib.hid (HN2'.out.below hb)
  have HB3 := Lib.hid (below_then HB2.out HB2.out.size hb)
  clear hb HM2 HN2' HB2
  have HCl := Lib.hid (clone_calls w3 w.heap.size L HM3.out (by omega))
  go_wp2_with fail
  refine HCl.out.mono ?_
  rintro e w4 ⟨pc, hpc, rfl, hM, hb⟩
  have hnc : pn < pc := Nat.lt_of_lt_of_le HN3.out.lt hpc
  have H4 : Hid (Three w w.heap.size pn pc L L w4) := ⟨HM3.out.below hb, HN3.out.below hb, hM, below_then HB3.out HB3.out.size hb, Nat.le_trans HB3.out.size hb.size⟩
  clear hb hM HM3 HN3 HB3 HCl hpc
  go_wp2_with fail
  go_loopw [8] (fun i wr => ∃ k : Nat, k ≤ n2 ∧ i = .int .i64 k ∧ Hid (Three w w.heap.size pn pc L ((l2.take k).foldl (fun L o => step L (clr o)) L) wr)) (fun i _ => n2 - (intOf i).toNat)
  case atStart => exact ⟨0, Nat.zero_le _, rfl, H4.out⟩
  case round =>
    obtain ⟨k, hk, rfl, H⟩ := hrel
    clear H4
    by_cases hlt : k < n2
    · obtain ⟨o, ho⟩ : ∃ o, l2[k]? = some o := ⟨_, List.getElem?_eq_getElem (by rw [HN2.out]; exact hlt)⟩
      obtain ⟨b, off, rfl, hbl, c0, c1', c2', c3⟩ := HS2.out.2.2.2 k o ho
      have t0 := (H.out.below.cell (p := ⟨b, off + k * 4, none⟩) hbl).trans c0
      have t1 := (H.out.below.cell (p := ⟨b, off + k * 4 + 1, none⟩) hbl).trans c1'
      have t2 := (H.out.below.cell (p := ⟨b, off + k * 4 + 2, none⟩) hbl).trans c2'
      have t3 := (H.out.below.cell (p := ⟨b, off + k * 4 + 3, none⟩) hbl).trans c3
      have HE := Lib.hid (show (l2.take (k + 1)).foldl (fun L o => step L (clr o)) L = step ((l2.take k).foldl (fun L o => step L (clr o)) L) (clr o) by rw [M.take_snoc ho, List.foldl_append]; rfl)
      have hfk := HFold.out k
      have hoo := HS2.out.2.2.1 o (List.mem_of_getElem? ho)
      have hst := step_clr ((l2.take k).foldl (fun L o => step L (clr o)) L) o
      generalize (l2.take k).foldl (fun L o => step L (clr o)) L = C at *
      have HSet := fun W (hM : MapAt W 0 pc C) => Lib.hid (set_calls W pc C o.lo o.hi o.val hM (by omega) hfk.1 hoo.1 hoo.2.2.2.1)
      have HClr := fun W (hM : MapAt W 0 pc C) => Lib.hid (clear_calls W pc C o.lo o.hi hM (by omega) hfk.1 hoo.1 hoo.2.2.2.1)
      clear hfk hoo c0 c1' c2' c3 ho
      by_cases k1 : o.kind = 1
      · rw [if_pos k1] at hst
        have HST := Lib.hid hst
        have q1 : (o.kind == 1) = true := by simpa using k1
        clear k1 hst
        go_wp2_with fail
        go_still_tail 16, (by kernel_rfl)
        change wpList _ _ _ _ _ wr.drew
        go_wp2_with fail
        refine (HSet wr.drew H.out.c).out.mono ?_
        rintro e w' ⟨rfl, h1, h2⟩
        have H2 := Lib.hid (H.out.turn h1 ⟨h2.os, h2.tape, h2.output, h2.size, h2.block⟩ (by omega) (by omega) (by omega))
        clear h1 h2 H t0 t1 t2 t3 HSet HClr
        go_wp2_with fail
        go_roundw
        case rel => exact ⟨k + 1, by omega, by go_num, by rw [HE.out, HST.out]; exact H2.out⟩
        case measure => simp [intOf]; omega
      · rw [if_neg k1] at hst
        have HST := Lib.hid hst
        have q1 : (o.kind == 1) = false := by simpa using k1
        clear k1 hst
        go_wp2_with fail
        go_still_tail 11, (by kernel_rfl)
        change wpList _ _ _ _ _ wr.drew
        go_wp2_with fail
        refine (HClr wr.drew H.out.c).out.mono ?_
        rintro e w' ⟨rfl, h1, h2⟩
        have H2 := Lib.hid (H.out.turn h1 ⟨h2.os, h2.tape, h2.output, h2.size, h2.block⟩ (by omega) (by omega) (by omega))
        clear h1 h2 H t0 t1 t2 t3 HSet HClr
        go_wp2_with fail
        go_roundw
        case rel => exact ⟨k + 1, by omega, by go_num, by rw [HE.out, HST.out]; exact H2.out⟩
        case measure => simp [intOf]; omega
    · obtain rfl : k = n2 := by omega
      have e : l2.take k = l2 := List.take_of_length_le (by rw [HN2.out]; omega)
      have hCk := HFold.out k
      rw [e] at H hCk
      have hplay : play (l1 ++ l2.map clr) = l2.foldl (fun L o => step L (clr o)) L := by rw [HPlay.out, List.foldl_map]
      generalize l2.foldl (fun L o => step L (clr o)) L = C at *
      have HPC := Lib.hid hplay
      have HWC := Lib.hid hCk.1
      have hCl := hCk.2
      have HEq := fun W p1 p2 K (h1 : MapAt W 0 p1 K) (h2 : MapAt W 0 p2 K) (hW1 : M.WF K) (a : K.length ≤ 40000000) => Lib.hid (equal_calls W (some ⟨p1, 0, none⟩) (some ⟨p2, 0, none⟩) K K (.inr ⟨p1, rfl, h1⟩) (.inr ⟨p2, rfl, h2⟩) hW1 hW1 (by omega) (by omega))
      clear hplay hCk e HFold
      go_wp2_with fail
      refine (HEq _ _ _ _ H.out.m H.out.n HW.out (by omega)).out.mono ?_
      rintro e w5 ⟨d1, hI, rfl, hb⟩
      obtain rfl : d1 = [] := equal_same (IsDiff.nil (fun _ => rfl)) hI (fun x => rfl) (fun x => rfl)
      have H5 := Lib.hid (H.out.then hb)
      clear hI hb H
      simp only [List.length_nil]
      have HRow := Lib.hid (show RowO (w5.alloc (.cells #[] 29)) w5.heap.size (.slice (some ⟨w5.heap.size, 0, none⟩) 0 0) [] from World.ownsRow_lit (size := 4) w5 #[] 0 (Nat.le_refl _) (by unfold maxLen; omega) rfl)
      have HScr := Lib.hid ((HS1.out.below H5.out.below).below ((Below.refl _ _).alloc (Nat.le_refl _) (.cells #[] 29)))
      have HBel := Lib.hid ((Below.refl w5.heap.size w5).alloc (Nat.le_refl _) (.cells #[] 29))
      have HSrc := Lib.hid hsrc1
      go_wp2_with (at_builtin; (refine wpList_unguard rfl ?_); (refine app_ops w5.heap.size rfl (.tmp 87) (.tmp 88) rfl _ [] l1 n1 c1 A1 rfl rfl HRow.out HScr.out HSrc.out HN1.out (by simp; omega) HBel.out (by simp) ?_); intro v6 w6 hR6 hB6 hz6)
      have HR6 := Lib.hid hR6
      have HB6 := Lib.hid hB6
      have HClr := Lib.hid (cleared_calls w6 A2 k c2 l2 HN2.out (by omega) (HS2.out.below (below_then H5.out.below H5.out.size (HB6.out))))
      clear hR6 hB6 HRow HScr HBel HSrc
      go_wp2_with fail
      refine HClr.out.mono ?_
      rintro e w7 ⟨v7, rfl, hR7, hb7⟩
      have hok2 : ∀ o ∈ l2.map clr, o.ok := by
        intro o ho
        obtain ⟨o', ho', rfl⟩ := List.mem_map.1 ho
        exact clr_ok (HS2.out.2.2.1 _ ho')
      obtain ⟨A7, c7, rfl, hS7, hsrc7⟩ := hR7.script hok2
      have HR7 := Lib.hid (HR6.out.below hb7)
      have HB7 := Lib.hid (below_then HB6.out hz6 hb7)
      have hz7 : w5.heap.size ≤ w7.heap.size := Nat.le_trans hz6 hb7.size
      have HS7 := Lib.hid hS7
      rw [List.length_map] at hsrc7
      have HSrc7 := Lib.hid hsrc7
      have HLm := Lib.hid (show (l2.map clr).length = l2.length from List.length_map ..)
      have hl7 : (l2.map clr).length ≤ 10000000 := by rw [List.length_map, HN2.out]; omega
      clear hS7 hsrc7 hR7 hb7 HClr HR6 HB6
      go_wp2_with (at_builtin; (refine wpList_unguard rfl ?_); go_loud (refine app_ops w5.heap.size rfl (.tmp 89) (.tmp 91) rfl _ l1 (l2.map clr) _ c7 A7 rfl rfl HR7.out HS7.out HSrc7.out HLm.out (by rw [HN1.out, HN2.out]; omega) HB7.out hz7 ?_); intro v8 w8 hR8 hB8 hz8)
      obtain ⟨A8, c8, rfl, hS8, _⟩ := hR8.script (fun o ho => by
        rcases List.mem_append.1 ho with h | h
        · exact HS1.out.2.2.1 o h
        · exact hok2 o h)
      have hll : (l1 ++ l2.map clr).length ≤ 100000000 := by rw [List.length_append, HN1.out]; omega
      have HLd := Lib.hid (laid_core w8 A8 _ c8 _ rfl hll hS8)
      rw [HPC.out] at HLd
      have H8 := Lib.hid (H5.out.then hB8)
      clear hS8 hR8 hB8 hok2 HR7 HB7 HS7 HSrc7 H5
      go_wp2_with fail
      refine HLd.out.mono ?_
      rintro e w9 ⟨rfl, hM, hb⟩
      have H9 := Lib.hid (H8.out.then hb)
      have HQ9 := Lib.hid hM
      clear hb hM H8 HLd
      go_wp2_with fail
      refine (HEq _ _ _ _ H9.out.c HQ9.out HWC.out hCl).out.mono ?_
      rintro e w10 ⟨d2, hI, rfl, hb⟩
      obtain rfl : d2 = [] := equal_same (IsDiff.nil (fun _ => rfl)) hI (fun x => rfl) (fun x => rfl)
      have H10 := Lib.hid (H9.out.then hb)
      have HCl := fun (h : MapAt w10 0 pc C) => Lib.hid (clone_calls w10 pc C h (by omega))
      clear hI hb H9 HQ9
      simp only [List.length_nil]
      go_wp2_with fail
      refine (HCl H10.out.c).out.mono ?_
      rintro e w11 ⟨pd, hpd, rfl, hM, hb⟩
      have hcd : pc < pd := Nat.lt_of_lt_of_le H10.out.c.lt hpd
      have H11 := Lib.hid (H10.out.then hb)
      have HD11 := Lib.hid hM
      have HSet := fun (h : MapAt w11 0 w.heap.size L) => Lib.hid (set_calls w11 w.heap.size L 0 18446744073709551615 3 h (by omega) HW.out (Int.le_refl _) (Int.le_refl _))
      rw [put_all HW.out 3] at HSet
      clear hb hM H10 HCl hpd
      go_wp2_with fail
      refine (HSet H11.out.m).out.mono ?_
      rintro e w12 ⟨rfl, hM, hg⟩
      have HM12 := Lib.hid hM
      have HN12 := Lib.hid (H11.out.n.other H11.out.m (by omega) hg)
      have HC12 := Lib.hid (H11.out.c.other H11.out.m (by omega) hg)
      have HD12 := Lib.hid (HD11.out.other H11.out.m (by omega) hg)
      have HB12 := Lib.hid (H11.out.below.grown hg H11.out.size (fun k hk => by injection hk with hk; omega))
      clear hM hg H11 HD11 HSet
      have q0 : eno 0 18446744073709551615 = 0 := rfl
      rw [q0]
      clear q0
      go_wp2_with fail
      refine (no_calls 0 w12).mono ?_
      rintro e w13 ⟨rfl, rfl⟩
      go_wp2_with fail
      refine (HEq _ _ _ _ HC12.out HD12.out HWC.out hCl).out.mono ?_
      rintro e w14 ⟨d3, hI, rfl, hb⟩
      obtain rfl : d3 = [] := equal_same (IsDiff.nil (fun _ => rfl)) hI (fun x => rfl) (fun x => rfl)
      have HM14 := Lib.hid (HM12.out.below hb)
      have HN14 := Lib.hid (HN12.out.below hb)
      have HB14 := Lib.hid (below_then HB12.out HB12.out.size hb)
      have HLen := fun (h : MapAt w14 0 w.heap.size _) => Lib.hid (len_calls w14 0 w.heap.size [⟨0, 18446744073709551615, 3⟩] h)
      clear hI hb HM12 HN12 HC12 HD12 HB12 HWC HPC hCl
      simp only [List.length_nil]
      go_wp2_with fail
      refine (HLen HM14.out).out.mono ?_
      rintro e w15 ⟨rfl, nq, rfl⟩
      have HN15 : Hid (MapAt (w14.drewN nq) 0 pn L) := HN14.out
      have HB15 : Hid (Below w.heap.size w (w14.drewN nq)) := below_drewN HB14.out _
      clear HM14 HN14 HB14 HLen
      simp only [List.length_cons, List.length_nil]
      generalize w14.drewN nq = V at *
      go_wp2_with fail
      have HSp := fun W (h : MapAt W 0 pn L) => Lib.hid (spans_calls W pn L h (by omega))
      have HDf := fun W (h : MapAt W 0 pn L) => Lib.hid (diff_calls W (some ⟨pn, 0, none⟩) none L [] (.inr ⟨pn, rfl, h⟩) (.inl ⟨rfl, rfl⟩) HW.out M.WF.nil (by omega) (by simp))
      refine (HSp V HN15.out).out.mono ?_
      rintro e v1 ⟨rfl, hR, hb⟩
      have HA1 := Lib.hid hR
      have HV1 := Lib.hid hb
      have HN1v := Lib.hid (HN15.out.below hb)
      have hab : V.heap.size < v1.heap.size := by
        rcases hR.2 with ⟨h1, _⟩ | ⟨g, cap, cur, h1, _, h3, _⟩
        · cases h1
        · injection h1 with h1 _ _; injection h1 with h1; injection h1 with h1 _ _; rw [h1]; exact (Array.getElem?_eq_some_iff.1 h3).1
      clear hR hb
      go_wp2_with fail
      refine (HSp v1 HN1v.out).out.mono ?_
      rintro e v2 ⟨rfl, hR, hb⟩
      have HA2 := Lib.hid (HA1.out.below hb)
      have HBr2 := Lib.hid hR
      have HV2 := Lib.hid (below_then HV1.out HV1.out.size hb)
      have HN2v := Lib.hid (HN1v.out.below hb)
      have hbx : v1.heap.size < v2.heap.size := by
        rcases hR.2 with ⟨h1, _⟩ | ⟨g, cap, cur, h1, _, h3, _⟩
        · cases h1
        · injection h1 with h1 _ _; injection h1 with h1; injection h1 with h1 _ _; rw [h1]; exact (Array.getElem?_eq_some_iff.1 h3).1
      clear hR hb HA1 HV1 HN1v
      go_wp2_with fail
      refine (HDf v2 HN2v.out).out.mono ?_
      rintro e v3 ⟨vx, lx, rfl, hR, hI, hl, hb⟩
      have HA3 := Lib.hid (HA2.out.below hb)
      have HBr3 := Lib.hid (HBr2.out.below hb)
      have HV3 := Lib.hid (below_then HV2.out HV2.out.size hb)
      have HN3v := Lib.hid (HN2v.out.below hb)
      have HX3 := Lib.hid hR
      have HI3 := Lib.hid hI
      have hxl : lx.length ≤ 40000001 := by simp at hl; omega
      have hbz := hb.size
      obtain ⟨Ax, cx, hvx, _⟩ := hR.read
      have HOx := Lib.hid (World.ownsRow.lt hR)
      subst hvx
      clear hR hI hl hb HA2 HBr2 HV2 HN2v
      go_wp2_with fail
      refine (HDf v3 HN3v.out).out.mono ?_
      rintro e v4 ⟨vy, ly, rfl, hR, hI, hl, hb⟩
      obtain rfl : ly = lx := equal_same HI3.out hI (fun _ => rfl) (fun _ => rfl)
      have hbz4 := hb.size
      have HV4 := Lib.hid (below_then HV3.out HV3.out.size hb)
      have HN4 := Lib.hid HN15.out
      have HOy := Lib.hid (World.ownsRow.lt hR)
      have HF := Lib.hid (Fam.mk HV4.out HV4.out.size (HA3.out.below hb) ((show ∀ {w B B' v l}, RowAt w B v l → B' ≤ B → RowAt w B' v l from fun h hb => ⟨h.1, h.2.imp id fun ⟨g, cap, cur, e1, e2, e3⟩ => ⟨g, cap, cur, e1, Nat.le_trans hb e2, e3⟩⟩) (HBr3.out.below hb) (Nat.le_of_lt hab)) ((HX3.out.below hb).mono (by omega)) (hR.mono (by omega)))
      obtain ⟨Ay, cy, hvy, _⟩ := hR.read
      subst hvy
      clear hR hI hl hb HA3 HBr3 HV3 HN3v HX3 HI3 HDf HSp HV4 HN4
      generalize v1.heap.size = gb at *
      generalize v2.heap.size = ex at *
      generalize v3.heap.size = ey at *
      have hnn : L.length ≤ 20000000 := hL
      generalize hn : L.length = n at *
      generalize hm : ly.length = m at *
      have HNL := Lib.hid hn
      have HML := Lib.hid hm
      clear hn hm
      have hBa : V.heap.size ≤ V.heap.size := Nat.le_refl _
      have hx0 : ∀ g, (Value.slice Ax m cx).ownBlock = some g → ex ≤ g ∧ g < ey := fun g hg => HOx.out g hg
      have hy0 : ∀ g, (Value.slice Ay m cy).ownBlock = some g → ey ≤ g ∧ g < v4.heap.size := fun g hg => HOy.out g hg
      have HX0 := Lib.hid hx0
      have HY0 := Lib.hid hy0
      clear hx0 hy0 HOx HOy
      go_upto_region 26 with (at_builtin; (refine app_two V.heap.size rfl (.tmp 138) (.tmp 141) rfl (.slice (some ⟨V.heap.size, 0, none⟩) n n) L ⟨0, 0, 71⟩ ⟨0, 0, 72⟩ rfl rfl rfl HF.out.a (by rw [HNL.out]; omega) HF.out.size ?_); intro p w5 hP hA hg hat)
      obtain ⟨gp, cp, rfl, _, hpz, hp1, _⟩ := hP.tail2 HNL.out
      have hgp : gp = V.heap.size ∨ v4.heap.size ≤ gp := (own_at hat).imp (fun e => by rw [own_blocks] at e; injection e with e; exact e.symm) id
      have hz5 := hg.size
      have HF5 := Lib.hid (Fam.mk (HF.out.below.grown hg HF.out.size (fun k hk => by have := own_inj hk; omega)) (Nat.le_trans HF.out.size hg.size) hA (HF.out.b.grown hg (.inr (by rw [own_blocks, own_blocks]; intro e; injection e with e; omega)))
        (HF.out.x.grown hg (.inr (fun e => by have := HX0.out V.heap.size e; omega))) (HF.out.y.grown hg (.inr (fun e => by have := HY0.out V.heap.size e; omega))))
      clear hP hA hat hg HF
      go_upto_region 27 with (at_builtin; (refine app_two V.heap.size rfl (.tmp 143) (.tmp 146) rfl (.slice (some ⟨gb, 0, none⟩) n n) L ⟨0, 0, 73⟩ ⟨0, 0, 74⟩ rfl rfl rfl HF5.out.b (by rw [HNL.out]; omega) HF5.out.size ?_); intro p w6 hP hA hg hat)
      obtain ⟨gq, cq, rfl, _, hqz, _, hq1⟩ := hP.tail2 HNL.out
      have hgq : gq = gb ∨ v4.heap.size ≤ gq := (own_at hat).imp (fun e => by rw [own_blocks] at e; injection e with e; exact e.symm) (fun h => Nat.le_trans hz5 h)
      have hz6 := hg.size
      have hp2 := hg.cell hp1 (by rw [own_blocks]; intro e; injection e with e; change gp = gb at e; omega)
      have HF6 := Lib.hid (Fam.mk (HF5.out.below.grown hg HF5.out.size (fun k hk => by have := own_inj hk; omega)) (Nat.le_trans HF5.out.size hg.size) (HF5.out.a.grown hg (.inr (by rw [own_blocks, own_blocks]; intro e; injection e with e; omega))) hA
        (HF5.out.x.grown hg (.inr (fun e => by have := HX0.out gb e; omega))) (HF5.out.y.grown hg (.inr (fun e => by have := HY0.out gb e; omega))))
      clear hP hA hat hg HF5 hp1
      go_upto_region 28 with (at_builtin; (refine app_roomk V.heap.size rfl (.tmp 148) (.tmp 150) rfl (.slice Ax m cx) ly 75 0 rfl rfl rfl HF6.out.x (by rw [HML.out]; omega) HF6.out.size ?_); intro p w7 hP hA hg hat)
      obtain ⟨gu, cu, rfl, _, huz, hu1⟩ := hP.tail1 HML.out
      have hgu : (ex ≤ gu ∧ gu < ey) ∨ v4.heap.size ≤ gu := (own_at hat).imp (fun e => HX0.out _ e) (fun h => Nat.le_trans (Nat.le_trans hz5 hz6) h)
      have hz7 := hg.size
      have hp3 := hg.cell hp2 (fun e => by have := HX0.out _ e.symm; dsimp only at this; omega)
      have hq2 := hg.cell hq1 (fun e => by have := HX0.out _ e.symm; dsimp only at this; omega)
      have HF7 := Lib.hid (Fam.mk (HF6.out.below.grown hg HF6.out.size (fun k hk => by have := HX0.out _ hk; omega)) (Nat.le_trans HF6.out.size hg.size) (HF6.out.a.grown hg (.inr (fun e => by have := HX0.out V.heap.size e.symm; omega))) (HF6.out.b.grown hg (.inr (fun e => by have := HX0.out gb e.symm; omega)))
        hA (HF6.out.y.grown hg (by
          cases hy : (Value.slice Ay m cy).ownBlock with
          | none => exact .inl rfl
          | some k => exact .inr (fun e => by have := HX0.out _ e.symm; have := HY0.out _ hy; omega))))
      clear hP hA hat hg HF6 hp2 hq1
      go_upto_region 29 with (at_builtin; (refine app_roomk V.heap.size rfl (.tmp 152) (.tmp 154) rfl (.slice Ay m cy) ly 76 0 rfl rfl rfl HF7.out.y (by rw [HML.out]; omega) HF7.out.size ?_); intro p w8 hP hA hg hat)
      obtain ⟨gw, cw, rfl, _, hwz, hw1⟩ := hP.tail1 HML.out
      have hgw : (ey ≤ gw ∧ gw < v4.heap.size) ∨ v4.heap.size ≤ gw := (own_at hat).imp (fun e => HY0.out _ e) (fun h => Nat.le_trans (Nat.le_trans hz5 (Nat.le_trans hz6 hz7)) h)
      have hz8 := hg.size
      have hp4 := hg.cell hp3 (fun e => by have := HY0.out _ e.symm; dsimp only at this; omega)
      have hq3 := hg.cell hq2 (fun e => by have := HY0.out _ e.symm; dsimp only at this; omega)
      have hu2 := hg.cell hu1 (fun e => by have := HY0.out _ e.symm; dsimp only at this; omega)
      have HF8 := Lib.hid (Fam.mk (HF7.out.below.grown hg HF7.out.size (fun k hk => by have := HY0.out _ hk; omega)) (Nat.le_trans HF7.out.size hg.size) (HF7.out.a.grown hg (.inr (fun e => by have := HY0.out V.heap.size e.symm; omega))) (HF7.out.b.grown hg (.inr (fun e => by have := HY0.out gb e.symm; omega)))
        (HF7.out.x.grown hg (by
          cases hx : (Value.slice Ax m cx).ownBlock with
          | none => exact .inl rfl
          | some k => exact .inr (fun e => by have := HY0.out _ e.symm; have := HX0.out _ hx; omega))) hA)
      have HT8 : Hid (Tails n m gp gq gu gw w8) := ⟨hp4, hq3, hu2, hw1⟩
      clear hP hA hat hg HF7 hp3 hq2 hu1 hp4 hq3 hu2 hw1 hpz hqz huz hwz
      have hxa : (Value.slice Ax m cx).ownBlock = none ∨ ∃ g, (Value.slice Ax m cx).ownBlock = some g ∧ gb < g := by
        cases hx : (Value.slice Ax m cx).ownBlock with
        | none => exact .inl rfl
        | some k => exact .inr ⟨k, rfl, by have := HX0.out _ hx; omega⟩
      have hya : (Value.slice Ay m cy).ownBlock = none ∨ ∃ g, (Value.slice Ay m cy).ownBlock = some g ∧ gb < g := by
        cases hy : (Value.slice Ay m cy).ownBlock with
        | none => exact .inl rfl
        | some k => exact .inr ⟨k, rfl, by have := HY0.out _ hy; omega⟩
      have HXA := Lib.hid hxa
      have HYA := Lib.hid hya
      clear hxa hya hz5 hz6 hz7 hz8
      have d0 : ¬ V.heap.size = gb := by omega
      have d1 : ¬ gb = V.heap.size := by omega
      go_wp2_with fail
      go_loopw [18] (fun i wr => ∃ (j : Nat) (La Lb : List S), j ≤ n ∧ i = .int .i64 j ∧ Hid (Full La (fun s => s.v = 77) j n) ∧ Hid (Full Lb (fun s => s.v = 78) j n) ∧ Hid (Fam V.heap.size V (.slice (some ⟨V.heap.size, 0, none⟩) n n) (.slice (some ⟨gb, 0, none⟩) n n) (.slice Ax m cx) (.slice Ay m cy) La Lb ly ly wr) ∧ Hid (Tails n m gp gq gu gw wr)) (fun i _ => n - (intOf i).toNat)
      case atStart => exact ⟨0, L, L, Nat.zero_le _, rfl, ⟨HNL.out, fun k s hk => by omega⟩, ⟨HNL.out, fun k s hk => by omega⟩, HF8.out, HT8.out⟩
      case round =>
        obtain ⟨j, La, Lb, hj, rfl, HLa, HLb, HF, HT⟩ := hrel
        clear HF8 HT8
        by_cases hjn : j < n
        · obtain ⟨s, hs⟩ : ∃ s, La[j]? = some s := ⟨_, List.getElem?_eq_getElem (by rw [HLa.out.1]; exact hjn)⟩
          obtain ⟨t, ht⟩ : ∃ t, Lb[j]? = some t := ⟨_, List.getElem?_eq_getElem (by rw [HLb.out.1]; exact hjn)⟩
          have hOa : wr.ownsRow V.heap.size 34 3 (.slice (some ⟨V.heap.size, 0, none⟩) n n) n (flat La) := by have h := HF.out.a; unfold RowAt at h; rwa [HLa.out.1] at h
          have hOb : wr.ownsRow V.heap.size 34 3 (.slice (some ⟨gb, 0, none⟩) n n) n (flat Lb) := by have h := HF.out.b; unfold RowAt at h; rwa [HLb.out.1] at h
          have f0 := World.ownsRow.frozenAt hOa (j * 3)
          have f1 := World.ownsRow.frozenAt hOa (j * 3 + 1)
          have f2 := World.ownsRow.frozenAt hOa (j * 3 + 2)
          have g0 := World.ownsRow.frozenAt hOb (j * 3)
          have g1 := World.ownsRow.frozenAt hOb (j * 3 + 1)
          have g2 := World.ownsRow.frozenAt hOb (j * 3 + 2)
          obtain ⟨_, _, hv, _, _, hcell⟩ := HF.out.a.read
          injection hv with e1 e2 e3
          subst e1; subst e3
          clear e2
          obtain ⟨_, e1, _, _, s0, s1, s2, _⟩ := hcell j s hs
          injection e1 with e1; injection e1 with e1 _ _; subst e1
          clear hcell
          obtain ⟨_, _, hv, _, _, hcell⟩ := HF.out.b.read
          injection hv with e1 e2 e3
          subst e1; subst e3
          clear e2
          obtain ⟨_, e1, _, _, t0, t1, t2, _⟩ := hcell j t ht
          injection e1 with e1; injection e1 with e1 _ _; subst e1
          clear hcell hOa hOb hs ht
          have HF2 := Lib.hid (HF.out.putS ⟨0, 0, 77⟩ ⟨0, 0, 78⟩ HLa.out.1 HLb.out.1 hjn (Nat.le_refl _) hab HXA.out HYA.out)
          have HT2 := Lib.hid ((((((HT.out.set V.heap.size (j * 3) (.int .u64 0) (by omega) (by omega) (by omega) (by omega)).set V.heap.size (j * 3 + 1) (.int .u64 0) (by omega) (by omega) (by omega) (by omega)).set V.heap.size (j * 3 + 2) (.int .i64 77) (by omega) (by omega) (by omega) (by omega)).set gb (j * 3) (.int .u64 0) (by omega) (by omega) (by omega) (by omega)).set gb (j * 3 + 1) (.int .u64 0) (by omega) (by omega) (by omega) (by omega)).set gb (j * 3 + 2) (.int .i64 78) (by omega) (by omega) (by omega) (by omega))
          have HLa2 := Lib.hid (HLa.out.next ⟨0, 0, 77⟩ rfl)
          have HLb2 := Lib.hid (HLb.out.next ⟨0, 0, 78⟩ rfl)
          dsimp only at HF2
          clear HF HT HLa HLb
          have q3 : (0 : Int) ≤ (j : Int) := by omega
          have q4 : (j : Int) < (n : Int) := by omega
          go_wp2_with fail
          go_roundw
          case rel => exact ⟨j + 1, _, _, by omega, by go_num, HLa2, HLb2, HF2, HT2⟩
          case measure => simp [intOf]; omega
        · obtain rfl : j = n := by omega
          have HA77 := HLa
          have HB78 := HLb
          clear HLa HLb
          go_wp2_with fail
          go_loopw [19] (fun i wr => ∃ (j' : Nat) (Lx Ly : List Rm), j' ≤ m ∧ i = .int .i64 j' ∧ Hid (Full Lx (fun s => s.lo = 79) j' m) ∧ Hid (Full Ly (fun s => s.lo = 80) j' m) ∧ Hid (Fam V.heap.size V (.slice (some ⟨V.heap.size, 0, none⟩) j j) (.slice (some ⟨gb, 0, none⟩) j j) (.slice Ax m cx) (.slice Ay m cy) La Lb Lx Ly wr) ∧ Hid (Tails j m gp gq gu gw wr)) (fun i _ => m - (intOf i).toNat)
          case atStart => exact ⟨0, ly, ly, Nat.zero_le _, rfl, ⟨HML.out, fun k s hk => by omega⟩, ⟨HML.out, fun k s hk => by omega⟩, HF, HT⟩
          case round =>
            obtain ⟨i, Lx, Ly, hi, rfl, HLx, HLy, HFx, HTx⟩ := hrel
            clear HF HT
            by_cases him : i < m
            · obtain ⟨s, hs⟩ : ∃ s, Lx[i]? = some s := ⟨_, List.getElem?_eq_getElem (by rw [HLx.out.1]; exact him)⟩
              obtain ⟨t, ht⟩ : ∃ t, Ly[i]? = some t := ⟨_, List.getElem?_eq_getElem (by rw [HLy.out.1]; exact him)⟩
              obtain ⟨_, _, hv, hcell⟩ := HFx.out.x.read
              injection hv with e1 e2 e3
              subst e1; subst e3
              clear e2
              obtain ⟨gx, rfl, _, _, s0, s1, _⟩ := hcell i s hs
              clear hcell
              obtain ⟨_, _, hv, hcell⟩ := HFx.out.y.read
              injection hv with e1 e2 e3
              subst e1; subst e3
              clear e2
              obtain ⟨gy, rfl, _, _, t0, t1, _⟩ := hcell i t ht
              clear hcell
              have hOx : wr.ownsRow V.heap.size 90 2 (.slice (some ⟨gx, 0, none⟩) m cx) m (flatM Lx) := by have h := HFx.out.x; unfold RowM at h; rwa [HLx.out.1] at h
              have hOy : wr.ownsRow V.heap.size 90 2 (.slice (some ⟨gy, 0, none⟩) m cy) m (flatM Ly) := by have h := HFx.out.y; unfold RowM at h; rwa [HLy.out.1] at h
              have f0 := World.ownsRow.frozenAt hOx (i * 2)
              have f1 := World.ownsRow.frozenAt hOx (i * 2 + 1)
              have g0 := World.ownsRow.frozenAt hOy (i * 2)
              have g1 := World.ownsRow.frozenAt hOy (i * 2 + 1)
              clear hOx hOy hs ht
              have bx := HX0.out gx rfl
              have bY := HY0.out gy rfl
              have HF2 := Lib.hid (HFx.out.putM ⟨79, 0, ()⟩ ⟨80, 0, ()⟩ HLx.out.1 HLy.out.1 him (Nat.le_refl _) hab (by omega) (by omega))
              have HT2 := Lib.hid ((((HTx.out.set gx (i * 2) (.int .u64 79) (by omega) (by omega) (by omega) (by omega)).set gx (i * 2 + 1) (.int .u64 0) (by omega) (by omega) (by omega) (by omega)).set gy (i * 2) (.int .u64 80) (by omega) (by omega) (by omega) (by omega)).set gy (i * 2 + 1) (.int .u64 0) (by omega) (by omega) (by omega) (by omega))
              have HLx2 := Lib.hid (HLx.out.next ⟨79, 0, ()⟩ rfl)
              have HLy2 := Lib.hid (HLy.out.next ⟨80, 0, ()⟩ rfl)
              dsimp only at HF2
              clear HFx HTx HLx HLy
              have q3 : (0 : Int) ≤ (i : Int) := by omega
              have q4 : (i : Int) < (m : Int) := by omega
              have d2 : ¬ gx = gy := by omega
              have d3 : ¬ gy = gx := by omega
              go_wp2_with fail
              go_roundw
              case rel => exact ⟨i + 1, _, _, by omega, by go_num, HLx2, HLy2, HF2, HT2⟩
              case measure => simp [intOf]; omega
            · obtain rfl : i = m := by omega
              clear him hjn
              go_wp2_with fail
              go_loopw [20] (fun v wx => ∃ k' : Nat, k' ≤ j ∧ v = .int .i64 k' ∧ wx = wr) (fun v _ => j - (intOf v).toNat)
              case atStart => exact ⟨0, Nat.zero_le _, rfl, rfl⟩
              case round =>
                obtain ⟨k', hk', rfl, rfl⟩ := hrel
                by_cases hkj : k' < j
                · obtain ⟨s, hs⟩ : ∃ s, La[k']? = some s := ⟨_, List.getElem?_eq_getElem (by rw [HA77.out.1]; exact hkj)⟩
                  obtain ⟨t, ht⟩ : ∃ t, Lb[k']? = some t := ⟨_, List.getElem?_eq_getElem (by rw [HB78.out.1]; exact hkj)⟩
                  obtain ⟨_, _, hv, _, _, hcell⟩ := HFx.out.a.read
                  injection hv with e1 e2 e3
                  subst e1; subst e3
                  clear e2
                  obtain ⟨_, e1, _, _, s0, s1, s2, _⟩ := hcell k' s hs
                  injection e1 with e1; injection e1 with e1 _ _; subst e1
                  clear hcell
                  obtain ⟨_, _, hv, _, _, hcell⟩ := HFx.out.b.read
                  injection hv with e1 e2 e3
                  subst e1; subst e3
                  clear e2
                  obtain ⟨_, e1, _, _, t0, t1, t2, _⟩ := hcell k' t ht
                  injection e1 with e1; injection e1 with e1 _ _; subst e1
                  rw [HA77.out.2 k' s hkj hs] at s2
                  rw [HB78.out.2 k' t hkj ht] at t2
                  clear hcell hs ht s0 s1 t0 t1
                  have q3 : (0 : Int) ≤ (k' : Int) := by omega
                  have q4 : (k' : Int) < (j : Int) := by omega
                  go_wp2_with fail
                  go_roundw
                  case rel => exact ⟨k' + 1, by omega, by go_num, trivial⟩
                  case measure => simp [intOf]; omega
                · obtain rfl : k' = j := by omega
                  clear hkj
                  go_wp2_with fail
                  go_loopw [21] (fun v wy => ∃ z : Nat, z ≤ i ∧ v = .int .i64 z ∧ wy = wr) (fun v _ => i - (intOf v).toNat)
                  case atStart => exact ⟨0, Nat.zero_le _, rfl, rfl⟩
                  case round =>
                    obtain ⟨z, hz, rfl, rfl⟩ := hrel
                    by_cases hzi : z < i
                    · obtain ⟨s, hs⟩ : ∃ s, Lx[z]? = some s := ⟨_, List.getElem?_eq_getElem (by rw [HLx.out.1]; exact hzi)⟩
                      obtain ⟨t, ht⟩ : ∃ t, Ly[z]? = some t := ⟨_, List.getElem?_eq_getElem (by rw [HLy.out.1]; exact hzi)⟩
                      obtain ⟨_, _, hv, hcell⟩ := HFx.out.x.read
                      injection hv with e1 e2 e3
                      subst e1; subst e3
                      clear e2
                      obtain ⟨gx, rfl, _, _, s0, s1, _⟩ := hcell z s hs
                      clear hcell
                      obtain ⟨_, _, hv, hcell⟩ := HFx.out.y.read
                      injection hv with e1 e2 e3
                      subst e1; subst e3
                      clear e2
                      obtain ⟨gy, rfl, _, _, t0, t1, _⟩ := hcell z t ht
                      rw [HLx.out.2 z s hzi hs] at s0
                      rw [HLy.out.2 z t hzi ht] at t0
                      clear hcell hs ht s1 t1
                      have q3 : (0 : Int) ≤ (z : Int) := by omega
                      have q4 : (z : Int) < (i : Int) := by omega
                      go_wp2_with fail
                      go_roundw
                      case rel => exact ⟨z + 1, by omega, by go_num, trivial⟩
                      case measure => simp [intOf]; omega
                    · obtain rfl : z = i := by omega
                      clear hzi
                      have p1 := HTx.out.p
                      have p2 := HTx.out.q
                      have p3 := HTx.out.u
                      have p4 := HTx.out.w
                      have hB9 := below_then HB15.out HB15.out.size HFx.out.below
                      have HB9 := Lib.hid hB9
                      have HN9 := Lib.hid (HN15.out.below HFx.out.below)
                      have HLd := Lib.hid (HLaid wr hB9)
                      clear hB9
                      go_wp2_with fail
                      refine HLd.out.out.mono ?_
                      rintro e w21 ⟨rfl, hM, hb⟩
                      have HQ21 := Lib.hid hM
                      have HN21 := Lib.hid (HN9.out.below hb)
                      have HB21 := Lib.hid (below_then HB9.out HB9.out.size hb)
                      clear hM hb HLd
                      go_wp2_with fail
                      refine (HEq _ _ _ _ HN21.out HQ21.out HW.out (by rw [HNL.out]; omega)).out.mono ?_
                      rintro e w22 ⟨d9, hI, rfl, hb⟩
                      obtain rfl : d9 = [] := equal_same (IsDiff.nil (fun _ => rfl)) hI (fun x => rfl) (fun x => rfl)
                      have HB22 := Lib.hid (below_then HB21.out HB21.out.size hb)
                      clear hI hb
                      simp only [List.length_nil]
                      go_wp2_with fail
                      go_ret
                      exact ⟨rfl, HB22.out⟩

end Go.Proofs.Ythkolpjbkbcmbaa
