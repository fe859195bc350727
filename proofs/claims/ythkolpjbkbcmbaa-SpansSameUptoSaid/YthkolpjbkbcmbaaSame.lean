/- The walk of SpansSame. -/
import Derived.Test.YthkolpjbkbcmbaaSameM
import Derived.Test.YthkolpjbkbcmbaaDiffs
import Derived.BigRegion
import Derived.Deep.CutBlock
import Derived.Deep.CutRange
set_option linter.unusedVariables false
set_option linter.unusedSimpArgs false
namespace Go.Proofs.Ythkolpjbkbcmbaa
open Go.RowKit

theorem wrap_ne (v : Int) : ¬ v = wrap64 (v + 1) := by
  unfold wrap64
  omega
theorem RowAt.drew {w : World} {base : Nat} {v : Value} {l : List S} (h : RowAt w base v l) : RowAt w.drew base v l := h
theorem le_drew {w : World} {a : Nat} (h : a ≤ w.heap.size) : a ≤ w.drew.heap.size := h

set_option maxRecDepth 100000 in
set_option maxHeartbeats 10000000 in
theorem same_core (w : World) (A Ao : Option Addr) (m c no co : Nat) (l : List Opn) (xs : List Int) (key : Int) (hln : l.length = m) (hm : m ≤ 10000000) (hs : Script w A c l) (hxs : IntsAt w Ao no co xs) (hno : no ≤ 10000000) (hkey : inU key) :
    Calls Try.prog 10 #[.slice A m c, .slice Ao no co, .int .u64 key] w fun e w' => e = .returned (.bool true) ∧ Below w.heap.size w w' := by
  have hW := play_wf hs.2.2.1
  have hL : (play l).length ≤ 100000000 := by have := play_length hs.2.2.1; omega
  have HLaid := Lib.hid (laid_core w A m c l hln (by omega) hs)
  have HX := Lib.hid hxs
  have k0 := hkey.1
  have k1 : key ≤ 18446744073709551615 := hkey.2
  clear hln hm hs hxs hkey
  generalize play l = L at *
  have HW := Lib.hid hW
  clear hW
  go_enter Try.func10, Try.ntmps10
  go_wp2_with fail
  refine HLaid.out.mono ?_
  rintro e w1 ⟨rfl, hM, hB⟩
  go_wp2_with fail
  refine (live_calls _).mono ?_
  rintro e w2 ⟨rfl, hb⟩
  have hB2 := below_then hB hB.size hb
  have hM2 := hM.below hb
  have HM2 := Lib.hid hM2
  have HSp := Lib.hid (spans_calls w2 w.heap.size L hM2 (by omega))
  have HB2 := Lib.hid hB2
  have hz2 := hB2.size
  clear hM hB hb HLaid hM2 hB2
  go_wp2_with fail
  refine HSp.out.mono ?_
  rintro e w3 ⟨rfl, hR, hb⟩
  have HR3 := Lib.hid hR
  have HB3 := Lib.hid hb
  have hz3 := hb.size
  clear hR hb HSp
  generalize hnn : L.length = n at *
  have HN := Lib.hid hnn
  clear hnn
  go_wp2_with fail
  go_loopw [9] (fun i wr => ∃ (j : Nat) (P : List S), j ≤ no ∧ i = .int .i64 j ∧ Hid (P.length = n ∧ ∀ x, x ∈ P ↔ x ∈ L) ∧ RowAt wr w2.heap.size (.slice (some ⟨w2.heap.size, 0, none⟩) n n) P ∧ Below w2.heap.size w2 wr ∧ w2.heap.size ≤ wr.heap.size) (fun i _ => no - (intOf i).toNat)
  case atStart => exact ⟨0, L, Nat.zero_le _, rfl, ⟨HN.out, fun _ => Iff.rfl⟩, HR3.out, HB3.out, hz3⟩
  case round =>
    obtain ⟨j, P, hj, rfl, HP, hR, hb, hz⟩ := hrel
    clear HR3 HB3
    by_cases hjn : j < no ∧ 0 < n
    · obtain ⟨hjn, hn0⟩ := hjn
      obtain ⟨y, hy⟩ : ∃ y, xs[j]? = some y := ⟨_, List.getElem?_eq_getElem (by rw [HX.out.2.1]; exact hjn)⟩
      obtain ⟨ad, had, hblk, hcx⟩ : ∃ ad, Ao = some ad ∧ ad.block < w.heap.size ∧ wr.cell? (ad.add j) = some (.int .i64 y) := by
        rcases HX.out.2.2 with ⟨_, h, _⟩ | ⟨ad, e, h1, h2⟩
        · omega
        · have h3 := h2 j (.int .i64 y) (by rw [List.getElem?_map, hy]; rfl)
          exact ⟨ad, e, h1 (by omega), ((below_then HB2.out hz2 hb).cell (p := ad.add j) (by rw [add_block]; exact h1 (by omega))).trans h3⟩
      subst had
      have hyI := HX.out.1 y (List.mem_of_getElem? hy)
      obtain ⟨y0, y1⟩ := hyI
      have r0 : -(n : Int) < y.tmod n := by have := Int.lt_tmod_of_pos y (b := (n : Int)) (by omega); omega
      have r1 : y.tmod n < n := Int.tmod_lt_of_pos y (by omega)
      have qn : ((n : Int) == 0) = false := by simp; omega
      clear hy
      go_upto_if 45 with fail
      go_cut [10] from 26 to 69 (fun v wx => ∃ jj : Nat, jj < n ∧ v = .int .i64 jj ∧ wx = wr)
      case first =>
        by_cases hr : y.tmod n < 0
        · obtain ⟨jj, hjj⟩ := Int.eq_ofNat_of_zero_le (show 0 ≤ y.tmod n + n by omega)
          have HJ := Lib.hid hjj
          have hlt : jj < n := by omega
          clear hjj
          go_wp2_with fail
          go_meet
          exact ⟨jj, hlt, by rw [HJ.out], rfl⟩
        · obtain ⟨jj, hjj⟩ := Int.eq_ofNat_of_zero_le (show 0 ≤ y.tmod n by omega)
          have HJ := Lib.hid hjj
          have hlt : jj < n := by omega
          clear hjj
          go_wp2_with fail
          go_meet
          exact ⟨jj, hlt, by rw [HJ.out], rfl⟩
      case rest =>
        obtain ⟨jj, hjj, rfl, hww⟩ := hcut
        subst hww
        obtain ⟨ii, hii⟩ : ∃ ii, ii = j % n := ⟨_, rfl⟩
        have hin : ii < n := by rw [hii]; exact Nat.mod_lt _ hn0
        have qi : (j : Int).tmod (n : Int) = (ii : Int) := by rw [hii, Int.tmod_eq_emod_of_nonneg (by omega)]; simp
        clear hii
        obtain ⟨s, hs⟩ : ∃ s, P[jj]? = some s := ⟨_, List.getElem?_eq_getElem (by rw [HP.out.1]; exact hjj)⟩
        obtain ⟨t, ht⟩ : ∃ t, P[ii]? = some t := ⟨_, List.getElem?_eq_getElem (by rw [HP.out.1]; exact hin)⟩
        have hP1 := HP.out.1
        have hO : wc.ownsRow w2.heap.size 34 3 (.slice (some ⟨w2.heap.size, 0, none⟩) n n) n (flat P) := by have h := hR; unfold RowAt at h; rwa [hP1] at h
        have f0 := World.ownsRow.frozenAt hO (jj * 3)
        have f1 := World.ownsRow.frozenAt hO (jj * 3 + 1)
        have f2 := World.ownsRow.frozenAt hO (jj * 3 + 2)
        have g0 := World.ownsRow.frozenAt hO (ii * 3)
        have g1 := World.ownsRow.frozenAt hO (ii * 3 + 1)
        have g2 := World.ownsRow.frozenAt hO (ii * 3 + 2)
        obtain ⟨A', c', hv, _, _, hcell⟩ := hR.read
        injection hv with e1 e2 e3
        subst e1; subst e3
        clear e2
        obtain ⟨_, e1, _, _, s0, s1, s2, _⟩ := hcell jj s hs
        injection e1 with e1; injection e1 with e1 _ _; subst e1
        obtain ⟨_, e1, _, _, t0, t1, t2, _⟩ := hcell ii t ht
        injection e1 with e1; injection e1 with e1 _ _; subst e1
        have HR := Lib.hid hR
        have HS := Lib.hid hs
        have HT := Lib.hid ht
        have q3 : (0 : Int) ≤ (jj : Int) := by omega
        have q4 : (jj : Int) < (n : Int) := by omega
        have q5 : (0 : Int) ≤ (ii : Int) := by omega
        have q6 : (ii : Int) < (n : Int) := by omega
        clear hcell hR hs ht hP1 hcx r0 r1 hO
        have h1 := HR.out.put s HP.out.1 hin
        have h2 := h1.1.put t (by simpa using HP.out.1) hjj
        have hg := h1.2.trans h2.2
        have hb' := hb.grown hg hz (fun k hk => by injection hk with hk; omega)
        have hz' := hg.size
        have HE : Hid (∃ P', Hid (P'.length = n ∧ ∀ x, x ∈ P' ↔ x ∈ L) ∧ RowAt (((((((wc.setCell { block := w2.heap.size, off := ii * 3 } (Value.int IntKind.u64 s.lo)).setCell { block := w2.heap.size, off := ii * 3 + 1 } (Value.int IntKind.u64 s.hi)).setCell { block := w2.heap.size, off := ii * 3 + 2 } (Value.int IntKind.i64 s.v)).setCell { block := w2.heap.size, off := jj * 3 } (Value.int IntKind.u64 t.lo)).setCell { block := w2.heap.size, off := jj * 3 + 1 } (Value.int IntKind.u64 t.hi)).setCell { block := w2.heap.size, off := jj * 3 + 2 } (Value.int IntKind.i64 t.v)).drew) w2.heap.size (.slice (some ⟨w2.heap.size, 0, none⟩) n n) P' ∧ Below w2.heap.size w2 (((((((wc.setCell { block := w2.heap.size, off := ii * 3 } (Value.int IntKind.u64 s.lo)).setCell { block := w2.heap.size, off := ii * 3 + 1 } (Value.int IntKind.u64 s.hi)).setCell { block := w2.heap.size, off := ii * 3 + 2 } (Value.int IntKind.i64 s.v)).setCell { block := w2.heap.size, off := jj * 3 } (Value.int IntKind.u64 t.lo)).setCell { block := w2.heap.size, off := jj * 3 + 1 } (Value.int IntKind.u64 t.hi)).setCell { block := w2.heap.size, off := jj * 3 + 2 } (Value.int IntKind.i64 t.v)).drew)) :=
          ⟨_, ⟨by simpa using HP.out.1, fun x => (swap_mem HS.out HT.out x).trans (HP.out.2 x)⟩, h2.1.drew, hb'.drew⟩
        have HZ : Hid (w2.heap.size ≤ (((((((wc.setCell { block := w2.heap.size, off := ii * 3 } (Value.int IntKind.u64 s.lo)).setCell { block := w2.heap.size, off := ii * 3 + 1 } (Value.int IntKind.u64 s.hi)).setCell { block := w2.heap.size, off := ii * 3 + 2 } (Value.int IntKind.i64 s.v)).setCell { block := w2.heap.size, off := jj * 3 } (Value.int IntKind.u64 t.lo)).setCell { block := w2.heap.size, off := jj * 3 + 1 } (Value.int IntKind.u64 t.hi)).setCell { block := w2.heap.size, off := jj * 3 + 2 } (Value.int IntKind.i64 t.v)).drew).heap.size) := le_drew (Nat.le_trans hz hz')
        clear h1 h2 hg hb' hz'
        go_upto_region 11 with fail
        by_cases hij : ii = jj
        · have hst : s = t := by have a := HS.out; have b := HT.out; rw [hij] at b; rw [a] at b; injection b
          subst hij
          subst hst
          clear t0 t1 t2 g0 g1 g2
          go_region
          go_wp2_with fail
          obtain ⟨P', hP', hR', hb'⟩ := HE.out
          go_roundw
          case rel => exact ⟨j + 1, P', by omega, by go_num, hP', hR', hb', HZ.out⟩
          case measure => simp [intOf]; omega
        · have n0 : ¬ (ii * 3 = jj * 3) := by omega
          have n1 : ¬ (ii * 3 = jj * 3 + 1) := by omega
          have n2 : ¬ (ii * 3 = jj * 3 + 2) := by omega
          have n3 : ¬ (ii * 3 + 1 = jj * 3) := by omega
          have n4 : ¬ (ii * 3 + 1 = jj * 3 + 1) := by omega
          have n5 : ¬ (ii * 3 + 1 = jj * 3 + 2) := by omega
          have n6 : ¬ (ii * 3 + 2 = jj * 3) := by omega
          have n7 : ¬ (ii * 3 + 2 = jj * 3 + 1) := by omega
          have n8 : ¬ (ii * 3 + 2 = jj * 3 + 2) := by omega
          go_region
          go_wp2_with fail
          obtain ⟨P', hP', hR', hb'⟩ := HE.out
          go_roundw
          case rel => exact ⟨j + 1, P', by omega, by go_num, hP', hR', hb', HZ.out⟩
          case measure => simp [intOf]; omega
    · go_upto_region 6 with fail
      go_cut [34] from 26 to 69 (fun v wx => v = .bool false ∧ wx = wr)
      case first =>
        by_cases hjn' : j < no
        · have hn0 : ¬ (0 < n) := fun h => hjn ⟨hjn', h⟩
          obtain rfl : n = 0 := by omega
          clear hjn hn0
          go_wp2_with fail
          go_meet
          exact ⟨rfl, rfl⟩
        · clear hjn
          go_wp2_with fail
          go_meet
          exact ⟨rfl, rfl⟩
      case rest =>
        obtain ⟨rfl, hww⟩ := hcut
        subst hww
        have HR := Lib.hid hR
        have HM4 := Lib.hid (HM2.out.below hb)
        have HB4 := Lib.hid (below_then HB2.out hz2 hb)
        have hz4 : w.heap.size ≤ wc.heap.size := by omega
        clear hR hb HM2 HB2 hjn
        go_wp2_with fail
        refine (new_calls _).mono ?_
        rintro e w5 ⟨rfl, hM, hb⟩
        have hpn : w.heap.size ≠ wc.heap.size := by have := HM4.out.lt; omega
        have HM5 := Lib.hid (HM4.out.below hb)
        have HN5 := Lib.hid hM
        have HR5 := Lib.hid (HR.out.below hb)
        have HB5 := Lib.hid (below_then HB4.out hz4 hb)
        have hz5 := hb.size
        clear hM hb HM4 HR HB4
        go_wp2_with fail
        go_loopw [12] (fun i wr => ∃ (k : Nat) (Q : List S), k ≤ n ∧ i = .int .i64 k ∧ Hid (MapAt wr 0 w.heap.size L) ∧ Hid (MapAt wr 0 wc.heap.size Q) ∧ Hid (RowAt wr w2.heap.size (.slice (some ⟨w2.heap.size, 0, none⟩) n n) P) ∧ Hid (LaidOf P k Q) ∧ Hid (Below w.heap.size w wr) ∧ w.heap.size ≤ wr.heap.size) (fun i _ => n - (intOf i).toNat)
        case atStart => exact ⟨0, [], Nat.zero_le _, rfl, HM5, HN5, HR5, LaidOf.start P, HB5, by omega⟩
        case round =>
          obtain ⟨k, Q, hk, rfl, HM, HQ, HR, HL, HB, hzr⟩ := hrel
          clear HM5 HN5 HR5 HB5
          have hQl : Q.length ≤ 400000000 := by have := HL.out.2.1; omega
          by_cases hkn : k < n
          · obtain ⟨s, hs⟩ : ∃ s, P[k]? = some s := ⟨_, List.getElem?_eq_getElem (by rw [HP.out.1]; exact hkn)⟩
            have hrd := HR.out.read
            obtain ⟨A', c', hv, _, _, hcell⟩ := hrd
            injection hv with e1 e2 e3
            subst e1; subst e3
            clear e2
            obtain ⟨_, e1, _, _, s0, s1, s2, _⟩ := hcell k s hs
            injection e1 with e1; injection e1 with e1 _ _; subst e1
            have hsok := HW.out.1 s ((HP.out.2 s).1 (List.mem_of_getElem? hs))
            have HSet := fun W (hQ : MapAt W 0 wc.heap.size Q) => Lib.hid (set_calls W wc.heap.size Q s.lo s.hi s.v hQ (by omega) HL.out.1 hsok.1 hsok.2.2)
            have HL2 := Lib.hid (HL.out.next HW.out (fun x hx => (HP.out.2 x).1 hx) hs)
            have q3 : (0 : Int) ≤ (k : Int) := by omega
            have q4 : (k : Int) < (n : Int) := by omega
            clear hcell hs hsok HL
            go_wp2_with fail
            go_still_tail 16, (by kernel_rfl)
            change wpList _ _ _ _ _ wr.drew
            go_wp2_with fail
            refine (HSet wr.drew HQ.out).out.mono ?_
            rintro e w6 ⟨rfl, hQ2, hg⟩
            have hg' : wr.grownBy w6 (some wc.heap.size) := ⟨hg.os, hg.tape, hg.output, hg.size, hg.block⟩
            have HM2 := Lib.hid (HM.out.other HQ.out hpn hg')
            have HR2 := Lib.hid (HR.out.other HQ.out hg')
            have HB2 := Lib.hid (HB.out.grown hg' hzr (fun k hk => by injection hk with hk; omega))
            have HQ2 := Lib.hid hQ2
            have hz6 := hg'.size
            clear hg hg' hQ2 HM HQ HR HB HSet s0 s1 s2
            go_wp2_with fail
            go_roundw
            case rel => exact ⟨k + 1, _, by omega, by go_num, HM2.out, HQ2.out, HR2.out, HL2.out, HB2.out, by omega⟩
            case measure => simp [intOf]; omega
          · obtain rfl : k = n := by omega
            have hQL : Q = L := LaidOf.all (by have h := HL.out; rw [← HP.out.1] at h; exact h) HW.out HP.out.2
            subst hQL
            have HDf := fun W q1 q2 K1 K2 (h1 : MapOpt W q1 K1) (h2 : MapOpt W q2 K2) (hW1 : M.WF K1) (hW2 : M.WF K2) (a : K1.length ≤ 100000002) (b : K2.length ≤ 100000002) => Lib.hid (diff_calls W q1 q2 K1 K2 h1 h2 hW1 hW2 (by omega) (by omega))
            have HEq := fun W q1 q2 K1 K2 (h1 : MapOpt W q1 K1) (h2 : MapOpt W q2 K2) (hW1 : M.WF K1) (hW2 : M.WF K2) (a : K1.length ≤ 100000002) (b : K2.length ≤ 100000002) => Lib.hid (equal_calls W q1 q2 K1 K2 h1 h2 hW1 hW2 (by omega) (by omega))
            have hQ8 : Q.length ≤ 100000002 := by rw [HN.out]; omega
            clear HL HR HP
            have hzw := hzr
            go_wp2_with fail
            refine (HEq _ _ _ _ _ (.inr ⟨_, rfl, HM.out⟩) (.inr ⟨_, rfl, HQ.out⟩) HW.out HW.out hQ8 hQ8).out.mono ?_
            rintro e v1 ⟨d1, hI, rfl, hb⟩
            obtain rfl : d1 = [] := equal_same (IsDiff.nil (fun _ => rfl)) hI (fun x => rfl) (fun x => rfl)
            have HM1 := Lib.hid (HM.out.below hb)
            have HQ1 := Lib.hid (HQ.out.below hb)
            have HB1 := Lib.hid (below_then HB.out hzr hb)
            have hz1 := hb.size
            clear hI hb HM HQ HB
            simp only [List.length_nil]
            go_wp2_with fail
            refine (HEq _ _ _ _ _ (.inr ⟨_, rfl, HQ1.out⟩) (.inr ⟨_, rfl, HM1.out⟩) HW.out HW.out hQ8 hQ8).out.mono ?_
            rintro e v2 ⟨d2, hI, rfl, hb⟩
            obtain rfl : d2 = [] := equal_same (IsDiff.nil (fun _ => rfl)) hI (fun x => rfl) (fun x => rfl)
            have HM2 := Lib.hid (HM1.out.below hb)
            have HQ2 := Lib.hid (HQ1.out.below hb)
            have HB2 := Lib.hid (below_then HB1.out (by omega) hb)
            have hz2' := hb.size
            clear hI hb HM1 HQ1 HB1
            simp only [List.length_nil]
            go_wp2_with fail
            refine (HDf _ _ _ _ _ (.inr ⟨_, rfl, HM2.out⟩) (.inr ⟨_, rfl, HQ2.out⟩) HW.out HW.out hQ8 hQ8).out.mono ?_
            rintro e v3 ⟨vd, d3, rfl, hR, hI, hl, hb⟩
            obtain rfl : d3 = [] := equal_same (IsDiff.nil (fun _ => rfl)) hI (fun x => rfl) (fun x => rfl)
            obtain ⟨A3, c3, rfl, _⟩ := hR.read
            have HM3 := Lib.hid (HM2.out.below hb)
            have HQ3 := Lib.hid (HQ2.out.below hb)
            have HB3 := Lib.hid (below_then HB2.out (by omega) hb)
            have hz3' := hb.size
            have HLen := fun W (hM : MapAt W 0 wc.heap.size Q) => Lib.hid (len_calls W 0 wc.heap.size Q hM)
            rw [HN.out] at HLen
            clear hI hb HM2 HQ2 HB2 hR hl
            simp only [List.length_nil]
            go_wp2_with fail
            refine (HLen _ HQ3.out).out.mono ?_
            rintro e v4 ⟨rfl, nq, rfl⟩
            have HM4 : Hid (MapAt (v3.drewN nq) 0 w.heap.size Q) := HM3.out
            have HQ4 : Hid (MapAt (v3.drewN nq) 0 wc.heap.size Q) := HQ3.out
            have HB4 : Hid (Below w.heap.size w (v3.drewN nq)) := below_drewN HB3.out _
            have hz4' : w.heap.size ≤ (v3.drewN nq).heap.size := by simp; omega
            have hzc4 : wc.heap.size ≥ w.heap.size := hz4
            have HGet := fun W (hM : MapAt W 0 wc.heap.size Q) => Lib.hid (get_calls W 0 wc.heap.size Q key hM HW.out (by omega))
            have HSet := fun W x (hM : MapAt W 0 wc.heap.size Q) => Lib.hid (set_calls W wc.heap.size Q key key x hM (by omega) HW.out k0 k1)
            have HTurn := fun x (h : val Q key ≠ some x) => Lib.hid (turned HW.out k0 k1 h)
            have HPut := fun x => Lib.hid (put_wf (lo := key) (hi := key) (some x) HW.out k0 k1)
            have hPl := fun x => (show (put Q key key (some x)).length ≤ 100000002 by have := put_length (lo := key) (hi := key) (some x) HW.out k0 k1; rw [HN.out] at this; omega)
            have HRm := fun W b1 b2 v v' L (h : RowM W b1 v L) (h' : RowM W b2 v' L) (a : L.length ≤ 1000000000) => Lib.hid (rooms_calls W b1 b2 v v' L h h' a)
            clear HM3 HQ3 HB3 HLen
            generalize v3.drewN nq = v5 at *
            go_wp2_with fail
            refine (HGet _ HQ4.out).out.mono ?_
            rintro e v6 ⟨rfl, hb⟩
            have HM6 := Lib.hid (HM4.out.below hb)
            have HQ6 := Lib.hid (HQ4.out.below hb)
            have HB6 := Lib.hid (below_then HB4.out hz4' hb)
            have hz6 : w.heap.size ≤ v6.heap.size := by have := hb.size; omega
            clear hb HM4 HQ4 HB4 HGet
            cases hrun : run Q key with
            | none =>
              have HT := HTurn 5 (by unfold val; rw [hrun]; simp)
              dsimp only [sp, Option.getD_none, Option.isSome_none]
              clear hrun HTurn
              go_wp2_with fail
              refine (HSet _ 5 HQ6.out).out.mono ?_
              rintro e v7 ⟨rfl, hQ7, hg⟩
              have HM7 := Lib.hid (HM6.out.other HQ6.out hpn hg)
              have HQ7 := Lib.hid hQ7
              have HB7 := Lib.hid (HB6.out.grown hg hz6 (fun k hk => by injection hk with hk; omega))
              have hz7 : w.heap.size ≤ v7.heap.size := by have := hg.size; omega
              clear hQ7 hg HM6 HQ6 HB6 HSet
              go_wp2_with fail
              refine (HDf _ _ _ _ _ (.inr ⟨_, rfl, HM7.out⟩) (.inr ⟨_, rfl, HQ7.out⟩) HW.out (HPut _).out hQ8 (hPl _)).out.mono ?_
              rintro e v8 ⟨vd8, d8, rfl, hR, hI, hl, hb⟩
              obtain rfl : d8 = [⟨key, key, ()⟩] := equal_same HT.out hI (fun x => rfl) (fun x => rfl)
              obtain ⟨A8, c8, hv8, hrd8⟩ := hR.read
              obtain ⟨g8, e8, _, hgl8, u0, u1, _⟩ := hrd8 0 ⟨key, key, ()⟩ rfl
              subst e8
              simp only [List.length_cons, List.length_nil, Nat.zero_add] at hv8
              subst hv8
              have HR8 := Lib.hid hR
              have HM8 := Lib.hid (HM7.out.below hb)
              have HQ8 := Lib.hid (HQ7.out.below hb)
              have HB8 := Lib.hid (below_then HB7.out hz7 hb)
              have hz8 : w.heap.size ≤ v8.heap.size := by have := hb.size; omega
              clear hR hI hl hb HM7 HQ7 HB7 hrd8
              go_wp2_with fail
              refine (HEq _ _ _ _ _ (.inr ⟨_, rfl, HM8.out⟩) (.inr ⟨_, rfl, HQ8.out⟩) HW.out (HPut _).out hQ8 (hPl _)).out.mono ?_
              rintro e v9 ⟨d9, hI, rfl, hb⟩
              obtain rfl : d9 = [⟨key, key, ()⟩] := equal_same HT.out hI (fun x => rfl) (fun x => rfl)
              have HR9 := Lib.hid (HR8.out.below hb)
              have HM9 := Lib.hid (HM8.out.below hb)
              have HQ9 := Lib.hid (HQ8.out.below hb)
              have HB9 := Lib.hid (below_then HB8.out hz8 hb)
              have hz9 : w.heap.size ≤ v9.heap.size := by have := hb.size; omega
              have u0' := (hb.cell (p := ⟨g8, 0, none⟩) hgl8).trans u0
              have u1' := (hb.cell (p := ⟨g8, 1, none⟩) hgl8).trans u1
              clear hI hb HM8 HQ8 HB8 HR8 u0 u1
              simp only [List.length_cons, List.length_nil]
              go_wp2_with fail
              refine (HDf _ _ _ _ _ (.inr ⟨_, rfl, HQ9.out⟩) (.inr ⟨_, rfl, HM9.out⟩) (HPut _).out HW.out (hPl _) hQ8).out.mono ?_
              rintro e v10 ⟨vd10, d10, rfl, hR, hI, hl, hb⟩
              obtain rfl : d10 = [⟨key, key, ()⟩] := equal_same HT.out hI.symm (fun x => rfl) (fun x => rfl)
              have HR10 := Lib.hid hR
              have HR9' := Lib.hid (HR9.out.below hb)
              have HB10 := Lib.hid (below_then HB9.out hz9 hb)
              have hz10 : w.heap.size ≤ v10.heap.size := by have := hb.size; omega
              clear hR hI hl hb HM9 HQ9 HB9 HR9
              go_wp2_with fail
              refine (HRm _ _ _ _ _ _ HR10.out HR9'.out (by simp)).out.mono ?_
              rintro e v11 ⟨rfl, hb⟩
              have HB11 := Lib.hid (below_then HB10.out hz10 hb)
              clear hb
              go_wp2_with fail
              go_ret
              exact ⟨rfl, HB11.out⟩
            | some s =>
              have HT := HTurn (wrap64 (s.v + 1)) (by unfold val; rw [hrun]; simp only [Option.map_some, ne_eq, Option.some.injEq]; exact wrap_ne s.v)
              dsimp only [sp, Option.getD_some, Option.isSome_some]
              clear hrun HTurn
              go_wp2_with fail
              generalize wrap64 (s.v + 1) = x at *
              refine (HSet _ x HQ6.out).out.mono ?_
              rintro e v7 ⟨rfl, hQ7, hg⟩
              have HM7 := Lib.hid (HM6.out.other HQ6.out hpn hg)
              have HQ7 := Lib.hid hQ7
              have HB7 := Lib.hid (HB6.out.grown hg hz6 (fun k hk => by injection hk with hk; omega))
              have hz7 : w.heap.size ≤ v7.heap.size := by have := hg.size; omega
              clear hQ7 hg HM6 HQ6 HB6 HSet
              go_wp2_with fail
              refine (HDf _ _ _ _ _ (.inr ⟨_, rfl, HM7.out⟩) (.inr ⟨_, rfl, HQ7.out⟩) HW.out (HPut _).out hQ8 (hPl _)).out.mono ?_
              rintro e v8 ⟨vd8, d8, rfl, hR, hI, hl, hb⟩
              obtain rfl : d8 = [⟨key, key, ()⟩] := equal_same HT.out hI (fun x => rfl) (fun x => rfl)
              obtain ⟨A8, c8, hv8, hrd8⟩ := hR.read
              obtain ⟨g8, e8, _, hgl8, u0, u1, _⟩ := hrd8 0 ⟨key, key, ()⟩ rfl
              subst e8
              simp only [List.length_cons, List.length_nil, Nat.zero_add] at hv8
              subst hv8
              have HR8 := Lib.hid hR
              have HM8 := Lib.hid (HM7.out.below hb)
              have HQ8 := Lib.hid (HQ7.out.below hb)
              have HB8 := Lib.hid (below_then HB7.out hz7 hb)
              have hz8 : w.heap.size ≤ v8.heap.size := by have := hb.size; omega
              clear hR hI hl hb HM7 HQ7 HB7 hrd8
              go_wp2_with fail
              refine (HEq _ _ _ _ _ (.inr ⟨_, rfl, HM8.out⟩) (.inr ⟨_, rfl, HQ8.out⟩) HW.out (HPut _).out hQ8 (hPl _)).out.mono ?_
              rintro e v9 ⟨d9, hI, rfl, hb⟩
              obtain rfl : d9 = [⟨key, key, ()⟩] := equal_same HT.out hI (fun x => rfl) (fun x => rfl)
              have HR9 := Lib.hid (HR8.out.below hb)
              have HM9 := Lib.hid (HM8.out.below hb)
              have HQ9 := Lib.hid (HQ8.out.below hb)
              have HB9 := Lib.hid (below_then HB8.out hz8 hb)
              have hz9 : w.heap.size ≤ v9.heap.size := by have := hb.size; omega
              have u0' := (hb.cell (p := ⟨g8, 0, none⟩) hgl8).trans u0
              have u1' := (hb.cell (p := ⟨g8, 1, none⟩) hgl8).trans u1
              clear hI hb HM8 HQ8 HB8 HR8 u0 u1
              simp only [List.length_cons, List.length_nil]
              go_wp2_with fail
              refine (HDf _ _ _ _ _ (.inr ⟨_, rfl, HQ9.out⟩) (.inr ⟨_, rfl, HM9.out⟩) (HPut _).out HW.out (hPl _) hQ8).out.mono ?_
              rintro e v10 ⟨vd10, d10, rfl, hR, hI, hl, hb⟩
              obtain rfl : d10 = [⟨key, key, ()⟩] := equal_same HT.out hI.symm (fun x => rfl) (fun x => rfl)
              have HR10 := Lib.hid hR
              have HR9' := Lib.hid (HR9.out.below hb)
              have HB10 := Lib.hid (below_then HB9.out hz9 hb)
              have hz10 : w.heap.size ≤ v10.heap.size := by have := hb.size; omega
              clear hR hI hl hb HM9 HQ9 HB9 HR9
              go_wp2_with fail
              refine (HRm _ _ _ _ _ _ HR10.out HR9'.out (by simp)).out.mono ?_
              rintro e v11 ⟨rfl, hb⟩
              have HB11 := Lib.hid (below_then HB10.out hz10 hb)
              clear hb
              go_wp2_with fail
              go_ret
              exact ⟨rfl, HB11.out⟩

end Go.Proofs.Ythkolpjbkbcmbaa
