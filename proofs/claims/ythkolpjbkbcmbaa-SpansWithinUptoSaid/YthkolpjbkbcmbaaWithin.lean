/- The walk of SpansWithin. -/
import Derived.Test.YthkolpjbkbcmbaaWithinR
set_option linter.unusedVariables false
set_option linter.unusedSimpArgs false
namespace Go.Proofs.Ythkolpjbkbcmbaa
open Go.RowKit
attribute [local go_sem] Oper.semAt_some

theorem put_none {L : List S} (hW : M.WF L) : put L 0 18446744073709551615 none = [] := by
  have h0 : (0 : Int) ≤ 0 := Int.le_refl _
  have ht : (18446744073709551615 : Int) ≤ M.top := Int.le_refl _
  refine M.canon (put_wf _ hW h0 ht) M.WF.nil fun k v => ?_
  rw [put_has _ hW h0 ht]
  by_cases hk : 0 ≤ k ∧ k ≤ 18446744073709551615
  · rw [if_pos hk]
    exact ⟨fun e => (by cases e), fun h => absurd h (M.has_nil k v)⟩
  · rw [if_neg hk]
    refine ⟨fun ⟨s, hs, a, b, _⟩ => ?_, fun h => absurd h (M.has_nil k v)⟩
    have := hW.1 s hs
    unfold M.Sp.ok M.top at this
    omega

/-- Of all ways out the plain one alone. -/
def onlyNormal (Q : Exit → Act → World → Prop) : Exit → Act → World → Prop
  | .normal, a, w => Q .normal a w
  | _, _, _ => False
theorem wp_onlyNormal {P : Program} {c : Code} {Q : Exit → Act → World → Prop} {a : Act} {w : World} (h : c.wp P (onlyNormal Q) a w) : c.wp P Q a w :=
  wp_mono h fun e a w h => by cases e <;> first | exact h | exact h.elim

/-- The blocks that the second loop's body writes. -/
def XM (pm B : Nat) (_ : World) (k : Nat) : Prop := k = pm ∨ k = B
theorem ownFrom_kept {β : Type} {pm B D : Nat} {V : World} (hD : V.heap.size ≤ D) : OwnFrom D (fun (_ : β) W => Kept (XM pm B) V W) := by
  intro _ X Y row hs hg hr
  refine ⟨Nat.le_trans hs.size hg.size, fun k cs t fr hk hx => ?_, fun k hk hx => hx⟩
  have hkl := (Array.getElem?_eq_some_iff.1 hk).1
  refine (hg.block k (Nat.lt_of_lt_of_le hkl hs.size) (fun e => ?_)).trans (hs.same k cs t fr hk hx)
  have := (hr k e.symm).1
  omega
theorem mapAt_own {β : Type} (p : Nat) (f : β → List S) : Own (fun s W => MapAt W 0 p (f s)) := by
  rintro s X Y row ⟨A, c, hp, hr⟩ hg hrow
  refine ⟨A, c, (hg.block p (Array.getElem?_eq_some_iff.1 hp).1 (fun e => ?_)).trans hp, hr.kept hg ?_⟩
  · obtain ⟨o, ho, hc⟩ := hrow p e.symm
    rw [hp] at ho; injection ho with ho; subst ho; cases hc
  · rcases hr.2 with ⟨h, _⟩ | ⟨g, cap, cur, h, _, hgb, _⟩
    · rw [h]; exact .inl rfl
    · rw [h]
      refine .inr fun e => ?_
      obtain ⟨o, ho, hc⟩ := hrow g (by rw [← e]; rfl)
      rw [hgb] at ho; injection ho with ho; subst ho; cases hc
theorem map_box {W : World} {p B : Nat} {t : TypeId} {L : List S} {v : Value} (h : MapAt W 0 p L) (hb : Boxed W B t v) (ht : t ≠ 98) : B ≠ p := by
  rintro rfl
  obtain ⟨A, c, hp, _⟩ := h
  rw [show W.heap[B]? = _ from hb] at hp
  injection hp with hp; injection hp with _ hp _
  exact ht hp
theorem map_row {W : World} {p B g : Nat} {L R : List S} {A : Option Addr} {n c : Nat} (h : MapAt W 0 p L) (hr : RowR W B (.slice A n c) R) (hg : (Value.slice A n c).ownBlock = some g) : g ≠ p := by
  rintro rfl
  obtain ⟨_, _, hp, _⟩ := h
  rcases hr.2 with ⟨h1, _⟩ | ⟨g', cap, cur, h1, _, h3, _⟩
  · rw [h1] at hg; cases hg
  · rw [h1, ownBlk] at hg
    injection hg with hg
    subst hg
    rw [h3] at hp
    injection hp with hp; injection hp with _ hp _; revert hp; decide
theorem box_row {W : World} {p B g : Nat} {R : List S} {A : Option Addr} {n c : Nat} {t : TypeId} {v : Value} (h : Boxed W p t v) (ht : t ≠ 66) (hr : RowR W B (.slice A n c) R) (hg : (Value.slice A n c).ownBlock = some g) : g ≠ p := by
  rintro rfl
  rcases hr.2 with ⟨h1, _⟩ | ⟨g', cap, cur, h1, _, h3, _⟩
  · rw [h1] at hg; cases hg
  · rw [h1, ownBlk] at hg
    injection hg with hg
    subst hg
    rw [show W.heap[_]? = _ from h] at h3
    injection h3 with h3; injection h3 with _ h3 _; exact ht h3
theorem map_set {W : World} {p B : Nat} {t : TypeId} {L : List S} {v : Value} (u : Value) (h : MapAt W 0 p L) (hb : Boxed W B t v) (ht : t ≠ 98) (ht2 : t ≠ 34) : MapAt (W.setCell ⟨B, 0, none⟩ u) 0 p L := by
  have hne := map_box h hb ht
  have hs := grownBy_setCell' W B u
  obtain ⟨A, c, hp, hr⟩ := h
  refine ⟨A, c, (hs.block p (Array.getElem?_eq_some_iff.1 hp).1 (fun e => by injection e with e; exact hne e.symm)).trans hp, hr.kept hs ?_⟩
  rcases hr.2 with ⟨h1, _⟩ | ⟨g, cap, cur, h1, _, h3, _⟩
  · rw [h1]; exact .inl rfl
  · rw [h1, ownBlk]
    refine .inr fun e => ?_
    injection e with e
    subst e
    rw [show W.heap[_]? = _ from hb] at h3
    injection h3 with h3; injection h3 with _ h3 _; exact ht2 h3
theorem pre_snoc {R pre : List S} {x : S} (h : pre <+: R) (hx : R[pre.length]? = some x) : pre ++ [x] <+: R := by
  obtain ⟨r, rfl⟩ := h
  rw [List.getElem?_append_right (Nat.le_refl _), Nat.sub_self] at hx
  cases r with
  | nil => simp at hx
  | cons y r =>
    simp at hx
    subst hx
    exact ⟨r, by simp⟩
theorem pre_last {R pre : List S} {x t : S} (h : pre ++ [x] <+: R) (ht : R[pre.length]? = some t) : x = t := by
  obtain ⟨r, rfl⟩ := h
  simp at ht
  exact ht
theorem Kept.rowR {X : World → Nat → Prop} {W W' : World} {B : Nat} {v : Value} {L : List S} (h : Kept X W W') (hr : RowR W B v L) (hx : ∀ g, v.ownBlock = some g → ¬ X W g) : RowR W' B v L := by
  refine ⟨hr.1, hr.2.imp id fun ⟨g, cap, cur, e1, e2, e3, e4⟩ => ⟨g, cap, cur, e1, e2, ?_, e4⟩⟩
  exact (h.same g cur 66 _ e3 (hx g (by rw [e1]; rfl))).trans e3
theorem kept_below {pm B : Nat} {W W' : World} (h : Below W.heap.size W W') : Kept (XM pm B) W W' := ⟨h.size, fun k cs t fr hk _ => h.block k (Array.getElem?_eq_some_iff.1 hk).1, fun _ _ hx => hx⟩
theorem kept_grown {pm B : Nat} {W W' : World} {row : Option Nat} (h : W.grownBy W' row) (hr : ∀ k, row = some k → k = pm ∨ k = B) : Kept (XM pm B) W W' :=
  ⟨h.size, fun k cs t fr hk hx => h.block k (Array.getElem?_eq_some_iff.1 hk).1 (fun e => hx (hr k e.symm)), fun _ _ hx => hx⟩

/-- What stands ahead of the loop that clears. -/
structure WS (w0 : World) (B8 B9 B11 pm : Nat) (L R : List S) (vw : Value) (W : World) : Prop where
  res : Boxed W B8 4 (.bool false)
  mb : Boxed W B9 24 (.pointer (some ⟨pm, 0, none⟩))
  wb : Boxed W B11 61 vw
  map : MapAt W 0 pm L
  row : RowR W 0 vw R
  below : Below w0.heap.size w0 W
  size : w0.heap.size ≤ W.heap.size
theorem WS.then {w0 : World} {B8 B9 B11 pm : Nat} {L R : List S} {vw : Value} {W W' : World} (h : WS w0 B8 B9 B11 pm L R vw W) (hb : Below W.heap.size W W') : WS w0 B8 B9 B11 pm L R vw W' :=
  ⟨(hb.block _ h.res.lt).trans h.res, (hb.block _ h.mb.lt).trans h.mb, (hb.block _ h.wb.lt).trans h.wb, h.map.below hb, h.row.below hb, below_then h.below h.size hb, Nat.le_trans h.size hb.size⟩

theorem WS.drewN {w0 : World} {B8 B9 B11 pm : Nat} {L R : List S} {vw : Value} {W : World} (h : WS w0 B8 B9 B11 pm L R vw W) (n : Nat) : WS w0 B8 B9 B11 pm L R vw (W.drewN n) := ⟨h.res, h.mb, h.wb, h.map, h.row, below_drewN h.below n, h.size⟩
theorem WS.drew {w0 : World} {B8 B9 B11 pm : Nat} {L R : List S} {vw : Value} {W : World} (h : WS w0 B8 B9 B11 pm L R vw W) : WS w0 B8 B9 B11 pm L R vw W.drew := ⟨h.res, h.mb, h.wb, h.map, h.row, h.below.drew, h.size⟩
theorem few_in {k : Nat} {l : List S} (h : (k : Int) < l.length) : few k l = l.take k := by
  unfold few
  by_cases h0 : (k : Int) = 0
  · rw [if_pos h0]
    have : k = 0 := by omega
    subst this
    rfl
  · rw [if_neg h0, if_pos (by omega)]
    simp
theorem few_out {stop : Int} {l : List S} (h : ¬ (0 ≤ stop ∧ stop < l.length)) : few stop l = l := by
  unfold few
  by_cases h0 : stop = 0
  · rw [if_pos h0]
    have : l.length = 0 := by omega
    exact (List.eq_nil_of_length_eq_zero this).symm
  · rw [if_neg h0]
    by_cases h1 : 0 < stop
    · rw [if_pos h1, List.take_of_length_le (by omega)]
    · rw [if_neg h1]
theorem few_neg (l : List S) : few (-1) l = l := by unfold few; rw [if_neg (by decide), if_neg (by decide)]

theorem putObj_box {W : World} {D B : Nat} {t : TypeId} {v : Value} {o o' : Obj} (hb : Boxed W B t v) (hD : W.heap[D]? = some o) (ho : o.isCells = false) : Boxed (W.putObj D o') B t v :=
  hb.kept (grownBy_putObj' W D o') (fun e => by injection e with e; subst e; rw [show W.heap[_]? = _ from hb] at hD; injection hD with hD; subst hD; cases ho)
theorem res7 {W : World} {B : Nat} {tmps : Array Value} (hb : Boxed W B 4 (.bool true)) (ht : tmps[8]? = some (.pointer (some ⟨B, 0, none⟩))) : (results Try.f7 tmps).run Try.prog W = .ok (.bool true) W := by
  have hc := hb.cell
  simp [results, Try.results7, ht, go_sem, hc]

set_option maxRecDepth 100000 in
set_option maxHeartbeats 10000000 in
theorem within_core (w : World) (A : Option Addr) (n c : Nat) (l : List Opn) (lo hi stop : Int) (hln : l.length = n) (hn : n ≤ 10000000) (hs : Script w A c l) (hst : -9223372036854775808 ≤ stop ∧ stop ≤ 9223372036854775807) :
    Calls Try.prog 7 #[.slice A n c, .int .u64 lo, .int .u64 hi, .int .i64 stop] w fun e w' => e = .returned (.bool true) ∧ Below w.heap.size w w' := by
  have hL : (play l).length ≤ 100000000 := by have := play_length hs.2.2.1; omega
  have hD : (rplay l).length ≤ 100000000 := by have := rplay_length l; omega
  have HM := Lib.hid (made_core (w.alloc (.cells #[.bool false] 4)) A n c l hln (by omega) (hs.below ((Below.refl _ _).alloc (Nat.le_refl _) _)))
  clear hln hn hs
  generalize play l = L at *
  generalize rplay l = D at *
  refine (callsIn_wide (n := 9)).1 ?_
  refine callsIn_of_wp_marks (F := Fence.wide) Try.func7 rfl trivial ?_ rfl
  simp only [Try.ntmps7, List.size_toArray, List.length_cons, List.length_nil, Nat.reduceAdd, Nat.reduceSub, Array.replicate_succ, Array.replicate_zero, List.push_toArray, List.append_toArray, List.nil_append, List.cons_append]
  refine wpIn_wide.2 ?_
  go_wp2_with fail
  refine HM.out.mono ?_
  rintro e w2 ⟨pm, pr, rfl, hT⟩
  have HT := Lib.hid hT
  have hb8 : Boxed w2 w.heap.size 4 (.bool false) := (hT.below.block _ (by simp)).trans (Boxed.new w 4 _)
  have hb2 : Below w.heap.size w w2 := below_then ((Below.refl w.heap.size w).alloc (Nat.le_refl _) _) (by simp) hT.below
  have HB8 := Lib.hid hb8
  have HB2 := Lib.hid hb2
  clear hT HM hb8 hb2
  go_wp2_with fail
  refine (live_calls _).mono ?_
  rintro e w3 ⟨rfl, hb⟩
  have HT3 := Lib.hid ((HT.out.then ((Below.refl _ _).alloc (Nat.le_refl _) (.cells #[.pointer (some ⟨pm, 0, none⟩)] 24))).then hb)
  have HB83 : Hid (Boxed w3 w.heap.size 4 (.bool false)) := (hb.block _ (by have := HB8.out.lt; simp; omega)).trans (HB8.out.alloc _)
  have HB93 : Hid (Boxed w3 w2.heap.size 24 (.pointer (some ⟨pm, 0, none⟩))) := (hb.block _ (by simp)).trans (Boxed.new w2 24 _)
  have HB23 : Hid (Below w.heap.size w w3) := below_then (HB2.out.alloc HB2.out.size _) (by have := HB2.out.size; simp; omega) hb
  have hSame := HT.out.same
  have hpm : w.heap.size < pm := by have := HT.out.pm; simp at this; omega
  have hwf := hSame.1
  have HWi := Lib.hid (rwithin_calls w3 _ pr D L lo hi HT3.out.ref hD (by omega) HT3.out.size hSame)
  have HM3 := Lib.hid HT3.out.map
  have HWF := Lib.hid hwf
  clear hb HT HT3 HB8 HB2 hSame hwf hD
  generalize w2.heap.size = B9 at *
  go_wp2_with fail
  refine HWi.out.mono ?_
  rintro e w4 ⟨vw, rfl, hR, hb⟩
  obtain ⟨Aw, cw, hvw, _⟩ := hR.read
  subst hvw
  have hsz4 : w.heap.size ≤ w4.heap.size := Nat.le_trans HB23.out.size hb.size
  have hb8 : Boxed w4 w.heap.size 4 (.bool false) := (hb.block _ HB83.out.lt).trans HB83.out
  have hb9 : Boxed w4 B9 24 (.pointer (some ⟨pm, 0, none⟩)) := (hb.block _ HB93.out.lt).trans HB93.out
  have hb24 : Below w.heap.size w w4 := below_then HB23.out HB23.out.size hb
  have H4 := Lib.hid (WS.mk (w0 := w) (hb8.alloc (.cells #[.slice Aw (wthn lo hi L).length cw] 61)) (hb9.alloc _) (Boxed.new w4 61 _) ((HM3.out.below hb).alloc _) ((hR.mono (Nat.zero_le _)).alloc _) (hb24.alloc hsz4 _) (by simp; omega))
  have hRl := wthn_length lo hi L
  have HPi := fun W most (h : MapAt W 0 pm L) => Lib.hid (pieces_calls W pm L lo hi most h HWF.out (by omega))
  have HAl := fun W b1 b2 n c c' A A' K (h : RowAt W b1 (.slice A n c) K) (h' : RowR W b2 (.slice A' n c') K) (e : K.length = n) (h2 : n ≤ 1000000000) => Lib.hid (alike_calls W b1 b2 n c c' A A' K h h' e h2)
  clear hb hR HB83 HB93 HB23 HM3 HWi hb8 hb9 hb24
  rename_i hdrop
  clear hdrop
  have c9 := H4.out.mb.cell
  have c11 := H4.out.wb.cell
  generalize hwl : wthn lo hi L = R at *
  have HRL := Lib.hid hwl
  clear hwl
  go_upto_region 5 with fail
  generalize w4.heap.size = B11 at *
  generalize w4.alloc (.cells #[.slice Aw R.length cw] 61) = V4 at *
  have hI := H4.out.drew
  refine wp_onlyNormal ?_
  go_region_held_law (fun w' => w'.cell? ⟨B9, 0, none⟩ = some (.pointer (some ⟨pm, 0, none⟩)) ∧ w'.cell? ⟨B11, 0, none⟩ = some (.slice Aw R.length cw))
    (first | exact ⟨c9, c11⟩ | exact ⟨hI.mb.cell, hI.wb.cell⟩)
    (first
      | (go_simp; go_at_call 41; refine (HPi _ _ hI.map).out.mono ?_; rintro e w5 ⟨v5, rfl, hR5, hb⟩; replace hI := hI.then hb; rw [few_neg] at hR5; obtain ⟨A5, c5, hv5, _⟩ := hR5.read; subst hv5; clear hb; go_simp)
      | (go_simp; go_at_call 40; refine (HAl w5 _ _ _ _ _ _ _ R hR5 hI.row rfl (by omega)).out.mono ?_; rintro e w6 ⟨rfl, hb⟩; replace hI := hI.then hb; clear hb; go_simp))
  simp only [onlyNormal]
  have H6 := Lib.hid hI
  clear hI hR5 c9 c11 H4
  rename_i hold1
  clear hold1
  have hcw : R.length ≤ cw ∧ cw ≤ 9223372036854775807 := by
    rcases H6.out.row.2 with ⟨h1, h2⟩ | ⟨_, _, _, h1, _, _, h2, h3, _⟩
    · injection h1 with _ _ h1; omega
    · injection h1 with _ _ h1; subst h1; unfold maxLen at h3; exact ⟨h2, by omega⟩
  obtain ⟨hcw1, hcw2⟩ := hcw
  have d11 := H6.out.wb.cell
  have d9 := H6.out.mb.cell
  generalize hrn : R.length = rn at *
  have HRN := Lib.hid hrn
  clear hrn
  go_upto_region 8 with fail
  go_cut [46] from 39 to 46 (fun v wx => ∃ bb : Bool, v = .bool bb ∧ Hid (bb = true ↔ 0 ≤ stop ∧ stop < rn) ∧ wx = w6)
  case first =>
    by_cases hs0 : 0 ≤ stop
    · by_cases hs1 : stop < rn
      · go_wp2_with fail
        go_meet
        exact ⟨true, rfl, by simp; exact ⟨hs0, hs1⟩, rfl⟩
      · go_wp2_with fail
        go_meet
        exact ⟨false, rfl, by simp; intro _; omega, rfl⟩
    · go_wp2_with fail
      go_meet
      exact ⟨false, rfl, by simp; intro h; omega, rfl⟩
  case rest =>
    obtain ⟨bb, rfl, HBB, hww⟩ := hcut
    subst hww
    go_upto_if 46 with fail
    go_cut [12] from 39 to 49 (fun v wx => ∃ (k c' : Nat) (A' : Option Addr), v = .slice A' k c' ∧ k = (few stop R).length ∧ RowR wc 0 (.slice A' k c') (few stop R) ∧ wx = wc)
    case first =>
      cases bb with
      | true =>
        obtain ⟨hs0, hs1⟩ := HBB.out.1 rfl
        obtain ⟨k, hk⟩ := Int.eq_ofNat_of_zero_le hs0
        subst hk
        have HF := Lib.hid (few_in (k := k) (l := R) (by rw [HRN.out]; exact hs1))
        have hkn : k < rn := by omega
        have HTk := Lib.hid (H6.out.row.take HRN.out hkn)
        go_wp2_with fail
        go_meet
        exact ⟨k, cw, Aw, rfl, by rw [HF.out, List.length_take, HRN.out]; omega, by rw [HF.out]; exact HTk.out, rfl⟩
      | false =>
        have HF := Lib.hid (few_out (stop := stop) (l := R) (fun h => by rw [HRN.out] at h; have := HBB.out.2 h; cases this))
        go_wp2_with fail
        go_meet
        exact ⟨rn, cw, Aw, rfl, by rw [HF.out]; exact HRN.out.symm, by rw [HF.out]; exact H6.out.row, rfl⟩
    case rest =>
      obtain ⟨k, c', A', rfl, hk, hRf, hww⟩ := hcut
      subst hww
      have HRf := Lib.hid hRf
      have HK := Lib.hid hk
      have hfl : (few stop R).length ≤ 1000000000 := by
        have h1 : (few stop R).length ≤ R.length := by
          unfold few
          split
          · simp
          · split
            · exact List.length_take_le' ..
            · exact Nat.le_refl _
        have := HRN.out
        omega
      clear hRf hk
      go_wp2_with fail
      refine (HPi _ _ H6.out.map).out.mono ?_
      rintro e w7 ⟨v7, rfl, hR, hb⟩
      have HR7 := Lib.hid hR
      have H7 := Lib.hid (H6.out.then hb)
      have HRf7 := Lib.hid (HRf.out.below hb)
      obtain ⟨A7, c7, hv7, _⟩ := hR.read
      subst hv7
      rw [← HK.out] at HR7
      rw [← HK.out]
      rw [← HK.out] at hfl
      clear hR hb H6 HRf
      go_wp2_with fail
      refine (HAl _ _ _ _ _ _ _ _ _ HR7.out HRf7.out HK.out.symm hfl).out.mono ?_
      rintro e w8 ⟨rfl, hb⟩
      have H8 := Lib.hid (H7.out.then hb)
      have hpq := H8.out.map.lt
      clear hb H7 HR7 HRf7
      have HWc := Lib.hid (within_calls w8 (some ⟨pm, 0, none⟩) lo hi)
      have e9 := H8.out.mb.cell
      go_wp2_with fail
      refine HWc.out.mono ?_
      rintro e w9 ⟨rfl, b3, b1, b2, hb⟩
      have H9 := Lib.hid (H8.out.then hb)
      clear hb H8 HWc
      go_wp2_with fail
      have hq14 := b2.lt
      have b14 := Boxed.new w9 3 (.int .i64 0)
      have H := H9.out.then ((Below.refl w9.heap.size w9).alloc (Nat.le_refl _) (.cells #[.int .i64 0] 3))
      replace b1 := b1.alloc (.cells #[.int .i64 0] 3)
      replace b2 := b2.alloc (.cells #[.int .i64 0] 3)
      replace b3 := b3.alloc (.cells #[.int .i64 0] 3)
      have h14 : w.heap.size ≤ w9.heap.size := H9.out.size
      have hn11 : B11 < w9.heap.size := H9.out.wb.lt
      have hn9 : B9 < w9.heap.size := H9.out.mb.lt
      have hn8 : w.heap.size < w9.heap.size := H9.out.res.lt
      have hnm : pm < w9.heap.size := H9.out.map.lt
      clear H9
      generalize w9.heap.size = B14 at *
      generalize w8.heap.size = Bq at *
      generalize w9.alloc (.cells #[.int .i64 0] 3) = V at *
      have hV := b14.lt
      have HL := fun W a0 a1 a2 b0 b1 b2 => Lib.hid (like_calls W a0 a1 a2 b0 b1 b2)
      have HClr := fun W K (h : MapAt W 0 pm K) (h1 : M.WF K) (h2 : K.length ≤ 500000000) => Lib.hid (clear_calls W pm K 0 18446744073709551615 h h2 h1 (Int.le_refl _) (Int.le_refl _))
      refine (wpIn_wide (n := 9)).1 ?_
      refine wpIn_rangeFunc_ownH (F := Fence.wide) (n := 9) rfl (by decide) (gf := 62) (lb := #[.pointer (some ⟨Bq + 1, 0, none⟩), .pointer (some ⟨Bq + 2, 0, none⟩), .pointer (some ⟨Bq, 0, none⟩)]) rfl trivial (enters_of Try.func62 (by kernel_rfl) rfl)
        (within_stops (XM pm B14) V _ _ _ pm 8 L lo hi H.map HWF.out (by omega) b1 b2 b3 ?hX0 ?hXg) (fun h k => Kept.trans h k) ?hKb (Below.refl _ _) (fun _ => rfl)
        (fun pre W => (Boxed W B14 3 (.int .i64 (pre.length : Nat)) ∧ MapAt W 0 pm (if pre = [] then L else [])) ∧ ((Kept (XM pm B14) V W ∧ Below w.heap.size w W) ∧ pre <+: R))
        (fun c pre W => ¬ pre <+: R)
        (OwnFrom.and (OwnFrom.and (Own.from (boxed_own B14 3 (fun pre : List S => Value.int .i64 (pre.length : Nat))) _) (Own.from (mapAt_own pm (fun pre : List S => if pre = [] then L else [])) _)) (OwnFrom.and (OwnFrom.and (ownFrom_kept (Nat.le_refl _)) (ownFrom_below (Nat.le_refl _) H.size)) (ownFrom_pure _ (fun pre : List S => pre <+: R))))
        (fun c => ownFrom_pure _ (fun pre : List S => ¬ pre <+: R))
        ⟨⟨b14, by simpa using H.map⟩, ⟨Kept.refl _ _, H.below⟩, List.nil_prefix⟩
        (fun x a' W => ∃ Bx, W.heap[Bx]? = some (.cells #[.int .u64 x.lo, .int .u64 x.hi, .int .i64 x.v] 34 (0, 0)) ∧ a' = { tmps := #[.slice A n c, .int .u64 lo, .int .u64 hi, .int .i64 stop, undef, undef, undef, undef, .pointer (some ⟨w.heap.size, 0, none⟩), .pointer (some ⟨B9, 0, none⟩), .pointer (some ⟨pr, 0, none⟩), .pointer (some ⟨B11, 0, none⟩), .slice A' k c', .func (.func 62) #[] #[.pointer (some ⟨Bq + 1, 0, none⟩), .pointer (some ⟨Bq + 2, 0, none⟩), .pointer (some ⟨Bq, 0, none⟩)], .pointer (some ⟨B14, 0, none⟩), .pointer (some ⟨Bx, 0, none⟩), .tuple #[.pointer (some ⟨pm, 0, none⟩), .pointer (some ⟨pr, 0, none⟩)], .slice A n c, .tuple #[.pointer (some ⟨pm, 0, none⟩), .pointer (some ⟨pr, 0, none⟩)], .pointer (some ⟨pm, 0, none⟩), .pointer (some ⟨pr, 0, none⟩), .pointer (some ⟨pm, 0, none⟩), .bool false, .bool false, .bool true, .bool false, .bool false, .pointer (some ⟨pr, 0, none⟩), .int .u64 lo, .int .u64 hi, .slice Aw rn cw, .pointer (some ⟨pm, 0, none⟩), .int .u64 lo, .int .u64 hi, .slice A5 rn c5, .slice Aw rn cw, .bool true, .bool false, .slice Aw rn cw, u39, u40, u41, u42, u43, u44, u45, u46, u47, u48, u49, .pointer (some ⟨pm, 0, none⟩), .int .u64 lo, .int .u64 hi, .int .i64 stop, .slice A7 k c7, .slice A' k c', .bool true, .bool false, .pointer (some ⟨pm, 0, none⟩), .int .u64 lo, .int .u64 hi, .func (.func 62) #[] #[.pointer (some ⟨Bq + 1, 0, none⟩), .pointer (some ⟨Bq + 2, 0, none⟩), .pointer (some ⟨Bq, 0, none⟩)], .func (.func 62) #[] #[.pointer (some ⟨Bq + 1, 0, none⟩), .pointer (some ⟨Bq + 2, 0, none⟩), .pointer (some ⟨Bq, 0, none⟩)], .agg #[.int .u64 x.lo, .int .u64 x.hi, .int .i64 x.v], undef, undef, undef, undef, undef, undef, undef, undef, undef, undef, undef, undef, undef, undef, undef, undef, undef, undef, undef, undef, undef, undef, undef, undef, undef, undef, undef, undef, undef, undef, undef, undef, undef, undef, undef, undef], defers := [] })
        ?hAx ?assign ?body ?done ?stop
      case hX0 =>
        rintro W hW k (rfl | rfl)
        · exact ⟨by omega, by omega, by omega⟩
        · exact ⟨by omega, by omega, by omega⟩
      case hXg => exact fun W W' _ _ k _ h => h
      case hKb =>
        intro W l o o' hl ho hc hw
        have hg := grownBy_putObj' W l o'
        exact ⟨hg.size, fun k cs t fr hk hx => hg.block k (Array.getElem?_eq_some_iff.1 hk).1 (fun e => by injection e with e; subst e; rw [hk] at ho; injection ho with ho; subst ho; cases hc), fun k hk hx => hx⟩
      case hAx =>
        rintro x a' _ X Y row ⟨Bx, h1, h2⟩ hg hr
        refine ⟨Bx, (hg.block Bx (Array.getElem?_eq_some_iff.1 h1).1 (fun e => ?_)).trans h1, h2⟩
        obtain ⟨_, o, ho, hc⟩ := hr Bx e.symm
        rw [h1] at ho; injection ho with ho; subst ho; cases hc
      case assign =>
        rintro l pre x W K ⟨⟨hb14, hmap⟩, ⟨hk, hB⟩, hpre⟩ hK
        unfold enS
        gi_wp2
        exact hK _ _ ((KeepsOthers.alloc _ _).from _) (kept_below ((Below.refl _ _).alloc (Nat.le_refl _) _)) ⟨⟨hb14.alloc _, hmap.alloc _⟩, ⟨hk.trans (kept_below ((Below.refl _ _).alloc (Nat.le_refl _) _)), hB.alloc hB.size _⟩, hpre⟩ ⟨W.heap.size, heap_alloc_new W _, rfl⟩
      case body =>
        rintro l pre x a' W hl hr ⟨⟨hb14, hmap⟩, ⟨hk, hB⟩, hpre⟩ ⟨Bx, bX, rfl⟩ hlen
        rw [HRL.out, HRN.out] at hlen
        obtain ⟨t, ht⟩ : ∃ t, R[pre.length]? = some t := ⟨_, List.getElem?_eq_getElem (by rw [HRN.out]; exact hlen)⟩
        have c14 := hb14.cell
        have f14 := hb14.frozen
        have hx9 : ¬ XM pm B14 V B9 := by
          rintro (h | h)
          · exact map_box H.map H.mb (by decide) h
          · omega
        have hx11 : ¬ XM pm B14 V B11 := by
          rintro (h | h)
          · exact map_box H.map H.wb (by decide) h
          · omega
        have c9 := (hk.boxed H.mb hx9).cell
        have c11 := (hk.boxed H.wb hx11).cell
        have hrow := hk.rowR H.row (by
          rintro g hg (h | h)
          · exact map_row H.map H.row hg h
          · exact box_row b14 (by decide) H.row hg h)
        obtain ⟨_, _, hv, hcell⟩ := hrow.read
        injection hv with e1 e2 e3
        subst e1; subst e3
        clear e2
        obtain ⟨g, rfl, _, hgl, t0, t1, t2, _⟩ := hcell _ t ht
        have x0 : W.cell? ⟨Bx, 0, none⟩ = some (.int .u64 x.lo) := by simp [cell_of_row W _ 0 _ _ _ bX]
        have x1 : W.cell? ⟨Bx, 1, none⟩ = some (.int .u64 x.hi) := by simp [cell_of_row W _ 1 _ _ _ bX]
        have x2 : W.cell? ⟨Bx, 2, none⟩ = some (.int .i64 x.v) := by simp [cell_of_row W _ 2 _ _ _ bX]
        have q3 : (0 : Int) ≤ (pre.length : Int) := by omega
        have q4 : (pre.length : Int) < (rn : Int) := by omega
        clear hcell bX
        gi_wp2
        refine wpIn_region_still_tail 10 (by rintro ⟨_, _, h⟩; exact h) (noDefer (by kernel_rfl)) (by kernel_rfl) (by kernel_rfl) ?_
        simp only [List.take_succ_cons, List.take_zero, List.drop_succ_cons, List.drop_zero]
        repeat still_step
        try refine wpStill_nil ?_
        change wpList _ _ _ _ _ W.drew
        by_cases hxt : x = t
        · subst hxt
          go_wp2_with fail
          refine (HL W.drew x.lo x.hi x.v x.lo x.hi x.v).out.mono ?_
          rintro e w10 ⟨rfl, hb⟩
          replace hb := below_of_drew hb
          simp only [beq_self_eq_true, Bool.and_self]
          have hc9 : w10.cell? ⟨B9, 0, none⟩ = some (.pointer (some ⟨pm, 0, none⟩)) := Boxed.cell (t := 24) ((hb.block B9 (hk.boxed H.mb hx9).lt).trans (hk.boxed H.mb hx9))
          have hm10 := hmap.below hb
          have hb10 : Boxed w10 B14 3 _ := (hb.block B14 hb14.lt).trans hb14
          have hwK : M.WF (if pre = [] then L else []) := by split; exact HWF.out; exact M.WF.nil
          have hlK : (if pre = [] then L else []).length ≤ 500000000 := by split; omega; simp
          clear c9 c11 c14 f14 t0 t1 t2 x0 x1 x2
          go_wp2_with fail
          refine (HClr w10 _ hm10 hwK hlK).out.mono ?_
          rintro e w11 ⟨rfl, hm11, hg⟩
          rw [put_none hwK] at hm11
          have q0 : eno 0 18446744073709551615 = 0 := rfl
          rw [q0]
          clear q0
          have hb11 : Boxed w11 B14 3 _ := (hg.block B14 hb10.lt (fun e => by injection e with e; omega)).trans hb10
          go_wp2_with fail
          refine (no_calls 0 w11).mono ?_
          rintro e w12 ⟨rfl, rfl⟩
          have d14 := hb11.cell
          have g14 := hb11.frozen
          go_wp2_with fail
          gi_wp2
          have hKF : KeepsFrom V.heap.size W (w12.setCell ⟨B14, 0, none⟩ (.int .i64 ((pre.length : Int) + 1))) :=
            ((KeepsFrom.of_grownBy (grown_below hb none) (fun j e => by cases e)).trans (KeepsFrom.of_grownBy hg (fun j e => by injection e with e; omega))).trans ((KeepsOthers.setCell _ _ _).from _)
          have hKP : Kept (XM pm B14) W (w12.setCell ⟨B14, 0, none⟩ (.int .i64 ((pre.length : Int) + 1))) :=
            ((kept_below hb).trans (kept_grown hg (fun k e => by injection e with e; exact .inl e.symm))).trans (kept_grown (grownBy_setCell' w12 B14 _) (fun k e => by injection e with e; exact .inr e.symm))
          have hBw : Below w.heap.size w (w12.setCell ⟨B14, 0, none⟩ (.int .i64 ((pre.length : Int) + 1))) :=
            ((below_then hB hB.size hb).grown hg (Nat.le_trans hB.size hb.size) (fun k e => by injection e with e; omega)).setCell (p := ⟨B14, 0, none⟩) (by simp; omega) _
          exact ⟨hKF, hKP, ⟨by simpa using hb11.set (.int .i64 ((pre.length : Int) + 1)), by simpa using map_set (.int .i64 ((pre.length : Int) + 1)) hm11 hb11 (by decide) (by decide)⟩, ⟨hk.trans hKP, hBw⟩, pre_snoc hpre ht⟩
        · have hbf : (x.lo == t.lo && (x.hi == t.hi && x.v == t.v)) = false := by
            cases x; cases t
            simp only [M.Sp.mk.injEq] at hxt
            simp
            intro a b c
            exact hxt ⟨a, b, c⟩
          go_wp2_with fail
          refine (HL W.drew x.lo x.hi x.v t.lo t.hi t.v).out.mono ?_
          rintro e w10 ⟨rfl, hb⟩
          replace hb := below_of_drew hb
          rw [hbf]
          have hb8 := hk.boxed H.res (by
            rintro (h | h)
            · exact map_box H.map H.res (by decide) h
            · omega)
          have hb10 : Boxed w10 w.heap.size 4 _ := (hb.block _ hb8.lt).trans hb8
          have d8 := hb10.cell
          have g8 := hb10.frozen
          clear c9 c11 c14 f14 t0 t1 t2 x0 x1 x2
          go_wp2_with fail
          gi_wp2
          exact ⟨(KeepsFrom.of_grownBy (grown_below hb none) (fun j e => by cases e)).trans ((KeepsOthers.setCell _ _ _).from _), fun h => hxt (pre_last h ht)⟩
      case done =>
        rintro D xs W hD hS ⟨⟨hb14, hmap⟩, ⟨hk, hB⟩, hpre⟩ hK
        rw [HRL.out] at hS
        subst hS
        rw [HRN.out] at hb14
        have hx9 : ¬ XM pm B14 V B9 := by
          rintro (h | h)
          · exact map_box H.map H.mb (by decide) h
          · omega
        have hx11 : ¬ XM pm B14 V B11 := by
          rintro (h | h)
          · exact map_box H.map H.wb (by decide) h
          · omega
        have hx8 : ¬ XM pm B14 V w.heap.size := by
          rintro (h | h)
          · exact map_box H.map H.res (by decide) h
          · omega
        have hb8 := hk.boxed H.res hx8
        have hb9 := hk.boxed H.mb hx9
        have hb11 := hk.boxed H.wb hx11
        have k1 := hk.boxed b1 (by rintro (h | h) <;> omega)
        have k2 := hk.boxed b2 (by rintro (h | h) <;> omega)
        have k3 := hk.boxed b3 (by rintro (h | h) <;> omega)
        have c8 := hb8.cell
        have f8 := hb8.frozen
        have c9 := hb9.cell
        have c11 := hb11.cell
        have c14 := hb14.cell
        have HLen := fun W K (h : MapAt W 0 pm K) => Lib.hid (len_calls W 0 pm K h)
        by_cases h0 : rn = 0
        · subst h0
          go_wp2_with fail
          refine (HLen _ _ hmap).out.mono ?_
          rintro e w10 ⟨rfl, nq, rfl⟩
          generalize (if xs = [] then L else []).length = kl
          by_cases hkl : kl = 0
          · subst hkl
            have HK : (W.drewN nq).heap[D]? = some (.deferred (some [])) := hK
            go_wp2_with fail
            refine ⟨by simp, .inl ⟨_, _, rfl, run_takeDeferred (P := Try.prog) ((KeepsOthers.setCell _ _ _).same D _ HK rfl), ?_⟩⟩
            have hb8' : Boxed ((W.drewN nq).setCell ⟨w.heap.size, 0, none⟩ (.bool true)) w.heap.size 4 (.bool true) := (show Boxed (W.drewN nq) w.heap.size 4 _ from hb8).set _
            have hB' : Below w.heap.size w ((W.drewN nq).setCell ⟨w.heap.size, 0, none⟩ (.bool true)) := (below_drewN hB nq).setCell (p := ⟨w.heap.size, 0, none⟩) (Nat.le_refl _) _
            have hK' : ((W.drewN nq).setCell ⟨w.heap.size, 0, none⟩ (.bool true)).heap[D]? = some (.deferred (some [])) := (KeepsOthers.setCell _ _ _).same D _ HK rfl
            have hDz : w.heap.size ≤ D := by have := H.size; omega
            exact ⟨_, res7 (putObj_box hb8' hK' rfl) rfl, rfl, hB'.trans (belowK_b (w := w) (Nat.le_refl _) _ D _ _ hDz hK' rfl rfl)⟩
          · have q1 : ((kl : Int) == 0) = false := by simp; omega
            have HK : (W.drewN nq).heap[D]? = some (.deferred (some [])) := hK
            go_wp2_with fail
            refine ⟨by simp, .inl ⟨_, _, rfl, run_takeDeferred (P := Try.prog) ((KeepsOthers.setCell _ _ _).same D _ HK rfl), ?_⟩⟩
            have hb8' : Boxed ((W.drewN nq).setCell ⟨w.heap.size, 0, none⟩ (.bool true)) w.heap.size 4 (.bool true) := (show Boxed (W.drewN nq) w.heap.size 4 _ from hb8).set _
            have hB' : Below w.heap.size w ((W.drewN nq).setCell ⟨w.heap.size, 0, none⟩ (.bool true)) := (below_drewN hB nq).setCell (p := ⟨w.heap.size, 0, none⟩) (Nat.le_refl _) _
            have hK' : ((W.drewN nq).setCell ⟨w.heap.size, 0, none⟩ (.bool true)).heap[D]? = some (.deferred (some [])) := (KeepsOthers.setCell _ _ _).same D _ HK rfl
            have hDz : w.heap.size ≤ D := by have := H.size; omega
            exact ⟨_, res7 (putObj_box hb8' hK' rfl) rfl, rfl, hB'.trans (belowK_b (w := w) (Nat.le_refl _) _ D _ _ hDz hK' rfl rfl)⟩
        · have hp0 : (0 : Int) < (rn : Int) := by omega
          have hRne : ¬ xs = [] := fun e => h0 (by rw [← HRN.out, e]; rfl)
          rw [if_neg hRne] at hmap
          have hDl := (Array.getElem?_eq_some_iff.1 hK).1
          go_wp2_with fail
          refine (wpIn_wide (n := 9)).1 ?_
          refine wpIn_rangeFunc_ownH (F := Fence.wide) (n := 9) rfl (by decide) (gf := 62) (lb := #[.pointer (some ⟨Bq + 1, 0, none⟩), .pointer (some ⟨Bq + 2, 0, none⟩), .pointer (some ⟨Bq, 0, none⟩)]) rfl trivial (enters_of Try.func62 (by kernel_rfl) rfl)
            (within_stops (XM pm B14) W _ _ _ pm 8 [] lo hi hmap M.WF.nil (by simp) k1 k2 k3 ?gX0 ?gXg) (fun h k => Kept.trans h k) ?gKb (Below.refl _ _) (fun _ => rfl)
            (fun pre W' => (((Boxed W' w.heap.size 4 (.bool false) ∧ Boxed W' B9 24 (.pointer (some ⟨pm, 0, none⟩))) ∧ Boxed W' B14 3 (.int .i64 (rn : Nat))) ∧ MapAt W' 0 pm []) ∧ (Below w.heap.size w W' ∧ W'.heap[D]? = some (.deferred (some []))))
            (fun c pre W => False)
            (OwnFrom.and (OwnFrom.and (OwnFrom.and (OwnFrom.and (Own.from (boxed_own w.heap.size 4 (fun _ : List S => Value.bool false)) _) (Own.from (boxed_own B9 24 (fun _ : List S => Value.pointer (some ⟨pm, 0, none⟩))) _)) (Own.from (boxed_own B14 3 (fun _ : List S => Value.int .i64 (rn : Nat))) _)) (Own.from (mapAt_own pm (fun _ : List S => [])) _)) (OwnFrom.and (ownFrom_below (Nat.le_refl _) hB.size) (fun _ X Y row hs hg hr => (hg.block D (Array.getElem?_eq_some_iff.1 hs).1 (fun e => by have := (hr D e.symm).1; omega)).trans hs)))
            (fun c => ownFrom_pure _ (fun _ : List S => False))
            ⟨⟨⟨⟨hb8, hb9⟩, hb14⟩, hmap⟩, hB, hK⟩
            (fun x a' W => True)
            (fun _ _ _ _ _ _ _ _ _ => trivial) ?gassign ?gbody ?gdone ?gstop
          case gX0 =>
            rintro W' hW k (rfl | rfl)
            · exact ⟨by have := hmap.lt; omega, by omega, by omega⟩
            · exact ⟨by have := hb14.lt; omega, by omega, by omega⟩
          case gXg => exact fun W W' _ _ k _ h => h
          case gKb =>
            intro W l o o' hl ho hc hw
            have hg := grownBy_putObj' W l o'
            exact ⟨hg.size, fun k cs t fr hk hx => hg.block k (Array.getElem?_eq_some_iff.1 hk).1 (fun e => by injection e with e; subst e; rw [hk] at ho; injection ho with ho; subst ho; cases hc), fun k hk hx => hx⟩
          case gassign =>
            intro l pre x W K hI hK
            unfold enS
            gi_wp2
            exact hK _ _ (KeepsFrom.refl _ _) (Kept.refl _ _) hI trivial
          case gbody =>
            intro l pre x a' W _ _ _ _ hlen
            have := wthn_length lo hi []
            simp only [List.length_nil] at this
            omega
          case gdone =>
            rintro D2 ys W2 hD2 _ ⟨⟨⟨⟨e8, e9⟩, e14⟩, emap⟩, eB, eK⟩ hK2
            have c8 := e8.cell
            have f8 := e8.frozen
            have c9 := e9.cell
            have c14 := e14.cell
            go_wp2_with fail
            refine (HLen _ _ emap).out.mono ?_
            rintro e w10 ⟨rfl, nq, rfl⟩
            simp only [List.length_nil]
            go_wp2_with fail
            have z8 : Boxed ((W2.drewN nq).setCell ⟨w.heap.size, 0, none⟩ (.bool true)) w.heap.size 4 (.bool true) := (show Boxed (W2.drewN nq) w.heap.size 4 _ from e8).set _
            have zB : Below w.heap.size w ((W2.drewN nq).setCell ⟨w.heap.size, 0, none⟩ (.bool true)) := (below_drewN eB nq).setCell (p := ⟨w.heap.size, 0, none⟩) (Nat.le_refl _) _
            have zK : ((W2.drewN nq).setCell ⟨w.heap.size, 0, none⟩ (.bool true)).heap[D]? = some (.deferred (some [])) := (KeepsOthers.setCell _ _ _).same D _ (show (W2.drewN nq).heap[D]? = _ from eK) rfl
            have zK2 : ((W2.drewN nq).setCell ⟨w.heap.size, 0, none⟩ (.bool true)).heap[D2]? = some (.deferred (some [])) := (KeepsOthers.setCell _ _ _).same D2 _ (show (W2.drewN nq).heap[D2]? = _ from hK2) rfl
            have hDz : w.heap.size ≤ D := by have := H.size; omega
            have hDz2 : w.heap.size ≤ D2 := by have := hB.size; omega
            have hne : D ≠ D2 := by omega
            generalize (W2.drewN nq).setCell ⟨w.heap.size, 0, none⟩ (.bool true) = Z at *
            have y8 := putObj_box (o' := .deferred none) z8 zK2 rfl
            have yB := zB.trans (belowK_b (w := w) (Nat.le_refl _) _ D2 _ (.deferred none) hDz2 zK2 rfl rfl)
            have yK : (Z.putObj D2 (.deferred none)).heap[D]? = some (.deferred (some [])) := (World.putObj_heap_other hne).trans zK
            refine ⟨by simp, .inl ⟨_, _, rfl, run_takeDeferred zK2, ?_⟩⟩
            refine ⟨by simp, .inl ⟨_, _, rfl, run_takeDeferred yK, ?_⟩⟩
            exact ⟨_, res7 (putObj_box y8 yK rfl) rfl, rfl, yB.trans (belowK_b (w := w) (Nat.le_refl _) _ D _ _ hDz yK rfl rfl)⟩
          case gstop =>
            rintro D c pre W _ _ h _
            exact h.elim
      case stop =>
        rintro D c pre W _ hp hnp _
        exact absurd hp (by rw [HRL.out]; exact hnp)

end Go.Proofs.Ythkolpjbkbcmbaa
