/- The walk of lay over spans of ints. -/
import Derived.Test.YthkolpjbkbcmbaaJoin
import Derived.LoopTactic
set_option linter.unusedVariables false
set_option linter.unusedSimpArgs false
namespace Go.Proofs.Ythkolpjbkbcmbaa
open Go.RowKit

theorem RowAt.cells {w : World} {base n c : Nat} {A : Option Addr} {l : List S} (h : RowAt w base (.slice A n c) l) :
    ∀ i s, l[i]? = some s → ∃ g, A = some ⟨g, 0, none⟩ ∧ g < w.heap.size ∧ w.cell? ⟨g, i * 3, none⟩ = some (.int .u64 s.lo) ∧ w.cell? ⟨g, i * 3 + 1, none⟩ = some (.int .u64 s.hi) ∧ w.cell? ⟨g, i * 3 + 2, none⟩ = some (.int .i64 s.v) := by
  obtain ⟨A', c', hv, _, _, hr⟩ := h.read
  injection hv with hA _ _
  subst hA
  intro i s hs
  obtain ⟨g, e, _, b, c0, c1, c2, _⟩ := hr i s hs
  exact ⟨g, e, b, c0, c1, c2⟩

def Apart (v u : Value) : Prop := ∀ b, v.ownBlock = some b → u.ownBlock ≠ some b
theorem Apart.symm {v u : Value} (h : Apart v u) : Apart u v := fun b hb hv => h b hv hb
theorem Apart.none_or {v u : Value} (h : Apart v u) : v.ownBlock = none ∨ v.ownBlock ≠ u.ownBlock := by
  cases hv : v.ownBlock with
  | none => exact .inl rfl
  | some b => exact .inr fun e => h b hv e.symm

/-- Two rows of the call's own, apart; nothing below B has turned. -/
def St (B : Nat) (w wr : World) (o r : Value) (X Y : List S) : Prop :=
  RowAt wr B o X ∧ RowAt wr B r Y ∧ Apart o r ∧ Below B w wr ∧ B ≤ wr.heap.size

section
variable {B : Nat} {w wr w' : World} {o r v' : Value} {X Y X' Y' : List S}
theorem St.alloc (h : St B w wr o r X Y) (ob : Obj) : St B w (wr.alloc ob) o r X Y :=
  ⟨h.1.alloc ob, h.2.1.alloc ob, h.2.2.1, h.2.2.2.1.alloc h.2.2.2.2 ob, by have := h.2.2.2.2; simp; omega⟩
theorem St.drewN (h : St B w wr o r X Y) (n : Nat) : St B w (wr.drewN n) o r X Y :=
  ⟨h.1.drewN n, h.2.1.drewN n, h.2.2.1, below_drewN h.2.2.2.1 n, h.2.2.2.2⟩
theorem St.symm (h : St B w wr o r X Y) : St B w wr r o Y X := ⟨h.2.1, h.1, h.2.2.1.symm, h.2.2.2⟩
theorem St.out (h : St B w wr o r X Y) (hR : RowAt w' B v' X') (hG : wr.grownBy w' o.ownBlock) (hat : v'.ownBlock = o.ownBlock ∨ ∃ b, v'.ownBlock = some b ∧ wr.heap.size ≤ b) : St B w w' v' r X' Y := by
  obtain ⟨h1, h2, h3, h4, h5⟩ := h
  refine ⟨hR, h2.grown hG h3.symm.none_or, ?_, h4.grown hG h5 (fun k hk => (World.ownsRow.lt h1 k hk).1), Nat.le_trans h5 hG.size⟩
  intro b hb hr
  rcases hat with hat | ⟨b', hb', hle⟩
  · exact h3 b (hat ▸ hb) hr
  · have := (World.ownsRow.lt h2 b hr).2
    rw [hb] at hb'
    injection hb' with hb'
    omega
/-- The box of the round's own span reads as before behind an append onto the first row. -/
theorem St.box (h : St B w wr o r X Y) {cs : Array Value} {t : TypeId} (hG : (wr.alloc (.cells cs t)).grownBy w' o.ownBlock) :
    wr.heap.size < w'.heap.size ∧ ∀ i u, cs[i]? = some u → w'.cell? ⟨wr.heap.size, i, none⟩ = some u := by
  have hs : (wr.alloc (.cells cs t)).heap.size = wr.heap.size + 1 := by simp
  have hne : some wr.heap.size ≠ o.ownBlock := fun e => by
    have := (World.ownsRow.lt h.1 _ e.symm).2
    omega
  have h1 := (hG.block wr.heap.size (by omega) hne).trans (heap_alloc_new wr _)
  exact ⟨by have := hG.size; omega, fun i u hu => (cell_of_row w' _ i cs t _ h1).trans hu⟩
theorem St.right (h : St B w wr o r X Y) (hR : RowAt w' B v' Y') (hG : wr.grownBy w' r.ownBlock) (hat : v'.ownBlock = r.ownBlock ∨ ∃ b, v'.ownBlock = some b ∧ wr.heap.size ≤ b) : St B w w' o v' X Y' :=
  (h.symm.out hR hG hat).symm
end

/-- The map's cell holds a new row that stands as l; nothing else that was there has turned. -/
def Laid (w : World) (p : Nat) (l : List S) (e : Ending) (w' : World) : Prop :=
  e = .returned (.tuple #[]) ∧ ∃ o wr, RowAt wr w.heap.size o l ∧ Below w.heap.size w wr ∧ w' = wr.setCell ⟨p, 0, none⟩ o

set_option maxRecDepth 100000 in
set_option maxHeartbeats 2000000 in
theorem lay_core (w : World) (p n c : Nat) (A : Option Addr) (L : List S) (lo hi : Int) (vs : Value) (hln : L.length = n) (hn : n ≤ 500000000)
    (hW : M.WF L) (h0 : 0 ≤ lo) (hlh : lo ≤ hi) (ht : hi ≤ 18446744073709551615) (hp : p < w.heap.size)
    (hc0 : w.cell? ⟨p, 0, none⟩ = some (.slice A n c))
    (hf0 : w.frozen? ⟨p, 0, none⟩ = false)
    (hrow : ∀ i s, L[i]? = some s → ∃ g, A = some ⟨g, 0, none⟩ ∧ g < w.heap.size ∧ w.cell? ⟨g, i * 3, none⟩ = some (.int .u64 s.lo) ∧ w.cell? ⟨g, i * 3 + 1, none⟩ = some (.int .u64 s.hi) ∧ w.cell? ⟨g, i * 3 + 2, none⟩ = some (.int .i64 s.v))
    (bs : Nat) (sl : List S) (hsl : RowAt w bs vs sl) (hsn : sl.length ≤ 1000) (hsw : M.WF sl) (hsb : ∀ s ∈ sl, s.lo = lo ∧ s.hi = hi) :
    Calls Try.prog 61 #[.pointer (some ⟨p, 0, none⟩), .int .u64 lo, .int .u64 hi, vs] w (Laid w p (M.lay L lo hi sl)) := by
  obtain ⟨i0, hi0, hz0, hz1, hz2⟩ := info_parts info34
  go_enter Try.func61, Try.ntmps61
  go_wp2_with (at_make; (refine wpList_make_own _ rfl _ _ 69 rfl w.heap.size 34 i0 _ 3 Try.underlying69 hi0 hz0 hz1 .i64 .i64 _ (n + 2) rfl rfl (by omega) (by rw [hz2]; omega) (by unfold maxLen; omega) (Nat.le_refl _) ?_); intro w1 hown hg1; have hc1 := hg1.cell hc0 (by simp))
  have hB1 : Below w.heap.size w w1 := (Below.refl _ _).grown hg1 (Nat.le_refl _) (by simp)
  have hR1 : RowAt w1 w.heap.size (.slice (some ⟨w.heap.size, 0, none⟩) 0 (n + 2)) [] := hown
  have hst : St w.heap.size w w1 (.slice (some ⟨w.heap.size, 0, none⟩) 0 (n + 2)) (.slice none 0 0) [] [] := ⟨hR1, RowAt.nil _ _, by simp [Apart, Value.ownBlock], hB1, hg1.size⟩
  clear hown hg1 hR1 hB1
  go_loopw [8, 9, 28] (fun o r i wr => ∃ k : Nat, k ≤ n ∧ i = .int .i64 k ∧ St w.heap.size w wr o r (M.lefts lo hi (L.take k)) (M.rights lo hi (L.take k))) (fun _ _ i _ => n - (intOf i).toNat)
  case atStart => exact ⟨0, Nat.zero_le _, rfl, hst⟩
  case round =>
    obtain ⟨k, hk, rfl, hcut⟩ := hrel
    clear hst hc1
    by_cases hlt : k < n
    · obtain ⟨s, hs⟩ : ∃ s, L[k]? = some s := ⟨_, List.getElem?_eq_getElem (by omega)⟩
      obtain ⟨g, rfl, hgl, s0, s1, s2⟩ := hrow k s hs
      have hB := hcut.2.2.2.1
      have hBs := hcut.2.2.2.2
      have t0 := (hB.cell (p := ⟨g, k * 3, none⟩) hgl).trans s0
      have t1 := (hB.cell (p := ⟨g, k * 3 + 1, none⟩) hgl).trans s1
      have t2 := (hB.cell (p := ⟨g, k * 3 + 2, none⟩) hgl).trans s2
      have hok := hW.1 s (List.mem_of_getElem? hs)
      have b0 := hok.1
      have b1 := hok.2.1
      have b2 : s.hi ≤ 18446744073709551615 := hok.2.2
      have EL := Lib.hid (show M.lefts lo hi (L.take (k + 1)) = M.lefts lo hi (L.take k) ++ M.cutL lo hi s by rw [M.take_snoc hs, M.lefts_snoc])
      have ER := Lib.hid (show M.rights lo hi (L.take (k + 1)) = M.rights lo hi (L.take k) ++ M.cutR lo hi s by rw [M.take_snoc hs, M.rights_snoc])
      have hlL : (M.lefts lo hi (L.take k)).length ≤ 2000000000 := by have := M.lefts_length lo hi (L.take k); have := List.length_take_le k L; omega
      have hlR : (M.rights lo hi (L.take k)).length ≤ 2000000000 := by have := M.rights_length lo hi (L.take k); have := List.length_take_le k L; omega
      obtain ⟨slo, shi, sv⟩ := s
      dsimp only at t0 t1 t2 b0 b1 b2
      generalize M.lefts lo hi (L.take k) = X at *
      generalize M.rights lo hi (L.take k) = Y at *
      have HC := Lib.hid hcut
      have HST := Lib.hid (hcut.alloc (.cells #[.int .u64 slo, .int .u64 shi, .int .i64 sv] 34))
      clear hrow hs s0 s1 s2 hB hcut hok hln
      by_cases c1 : shi < lo
      · go_wp2_with (at_builtin; (refine app_span w.heap.size rfl (.tmp 65) (.tmp 67) rfl _ X ⟨slo, shi, sv⟩ rfl rfl (by simp) HST.out.1 hlL (by simp; omega) ?_); intro v' w' hR hG hat)
        go_roundw
        case rel =>
          refine ⟨k + 1, by omega, by go_num, ?_⟩
          rw [EL.out, ER.out]
          unfold M.cutL M.cutR
          rw [if_pos c1, if_pos c1, List.append_nil]
          exact HST.out.out hR hG hat
        case measure => simp [intOf]; omega
      · by_cases c2 : slo > hi
        · go_wp2_with (at_builtin; (refine app_span w.heap.size rfl (.tmp 74) (.tmp 76) rfl _ Y ⟨slo, shi, sv⟩ rfl rfl (by simp) HST.out.2.1 hlR (by simp; omega) ?_); intro v' w' hR hG hat)
          go_roundw
          case rel =>
            refine ⟨k + 1, by omega, by go_num, ?_⟩
            rw [EL.out, ER.out]
            unfold M.cutL M.cutR
            rw [if_neg c1, if_neg c1, if_pos c2, if_pos c2, List.append_nil]
            exact HST.out.right hR hG hat
          case measure => simp [intOf]; omega
        · by_cases c3 : slo < lo
          · have e1 : M.cutL lo hi ⟨slo, shi, sv⟩ = [⟨slo, lo - 1, sv⟩] := by unfold M.cutL; rw [if_neg c1, if_neg c2, if_pos c3]
            have EL2 := Lib.hid e1
            clear e1
            by_cases c4 : shi > hi
            · have e2 : M.cutR lo hi ⟨slo, shi, sv⟩ = [⟨hi + 1, shi, sv⟩] := by unfold M.cutR; rw [if_neg c1, if_neg c2, if_pos c4]
              have ER2 := Lib.hid e2
              clear e2
              go_wp2_with (first | (at_builtin; (refine app_span w.heap.size rfl (.tmp 36) (.tmp 44) rfl _ X ⟨slo, lo - 1, sv⟩ rfl rfl (by simp) HST.out.1 hlL (by simp; omega) ?_); intro v' w' hR hG hat; have H2 := Lib.hid (HST.out.out hR hG hat); obtain ⟨hz, hx⟩ := HC.out.box hG; have d1 := hx 1 _ rfl; have d2 := hx 2 _ rfl; clear hx hR hG hat) | (at_builtin; (refine app_span w.heap.size rfl (.tmp 50) (.tmp 58) rfl _ Y ⟨hi + 1, shi, sv⟩ rfl rfl (by first | rfl | simp) H2.out.2.1 hlR H2.out.2.2.2.2 ?_); intro v'' w'' hR' hG' hat'))
              go_roundw
              case rel =>
                refine ⟨k + 1, by omega, by go_num, ?_⟩
                rw [EL.out, ER.out, EL2.out, ER2.out]
                exact H2.out.right hR' hG' hat'
              case measure => simp [intOf]; omega
            · have e2 : M.cutR lo hi ⟨slo, shi, sv⟩ = [] := by unfold M.cutR; rw [if_neg c1, if_neg c2, if_neg c4]
              have ER2 := Lib.hid e2
              clear e2
              go_wp2_with (first | (at_builtin; (refine app_span w.heap.size rfl (.tmp 36) (.tmp 44) rfl _ X ⟨slo, lo - 1, sv⟩ rfl rfl (by simp) HST.out.1 hlL (by simp; omega) ?_); intro v' w' hR hG hat; have H2 := Lib.hid (HST.out.out hR hG hat); obtain ⟨hz, hx⟩ := HC.out.box hG; have d1 := hx 1 _ rfl; have d2 := hx 2 _ rfl; clear hx hR hG hat))
              go_roundw
              case rel =>
                refine ⟨k + 1, by omega, by go_num, ?_⟩
                rw [EL.out, ER.out, EL2.out, ER2.out, List.append_nil]
                exact H2.out
              case measure => simp [intOf]; omega
          · have e1 : M.cutL lo hi ⟨slo, shi, sv⟩ = [] := by unfold M.cutL; rw [if_neg c1, if_neg c2, if_neg c3]
            have EL2 := Lib.hid e1
            clear e1
            by_cases c4 : shi > hi
            · have e2 : M.cutR lo hi ⟨slo, shi, sv⟩ = [⟨hi + 1, shi, sv⟩] := by unfold M.cutR; rw [if_neg c1, if_neg c2, if_pos c4]
              have ER2 := Lib.hid e2
              clear e2
              go_wp2_with (at_builtin; (refine app_span w.heap.size rfl (.tmp 50) (.tmp 58) rfl _ Y ⟨hi + 1, shi, sv⟩ rfl rfl (by simp) HST.out.2.1 hlR (by simp; omega) ?_); intro v'' w'' hR' hG' hat')
              go_roundw
              case rel =>
                refine ⟨k + 1, by omega, by go_num, ?_⟩
                rw [EL.out, ER.out, EL2.out, ER2.out, List.append_nil]
                exact HST.out.right hR' hG' hat'
              case measure => simp [intOf]; omega
            · have e2 : M.cutR lo hi ⟨slo, shi, sv⟩ = [] := by unfold M.cutR; rw [if_neg c1, if_neg c2, if_neg c4]
              have ER2 := Lib.hid e2
              clear e2
              go_wp2
              go_roundw
              case rel =>
                refine ⟨k + 1, by omega, by go_num, ?_⟩
                rw [EL.out, ER.out, EL2.out, ER2.out, List.append_nil, List.append_nil]
                exact HST.out
              case measure => simp [intOf]; omega
    · obtain rfl : k = n := by omega
      have hcut2 : St w.heap.size w wr u8 u9 (M.lefts lo hi L) (M.rights lo hi L) := by
        have e : L.take k = L := List.take_of_length_le (by omega)
        rw [e] at hcut
        exact hcut
      have hc00 := hc0
      clear hcut hrow hc0 hlt hk
      obtain ⟨As, cs, rfl, _, _, hsr⟩ := hsl.read
      obtain ⟨Ar, cr, rfl, _, _, _⟩ := hcut2.2.1.read
      have hXW := M.lefts_wf (lo := lo) (hi := hi) hlh hW
      have hYW := M.rights_wf (lo := lo) (hi := hi) hlh (by omega) hW
      have hxm : ∀ a ∈ M.lefts lo hi L, a.hi < lo := by
        intro a ha
        obtain ⟨y, _, ha⟩ := M.mem_lefts.1 ha
        exact (M.mem_cutL hlh ha).2.2.2.1
      have hym : ∀ a ∈ M.rights lo hi L, hi < a.lo := by
        intro a ha
        obtain ⟨y, _, ha⟩ := M.mem_rights.1 ha
        exact (M.mem_cutR hlh ha).2.2.2.1
      have hyl : (M.rights lo hi L).length ≤ 500000000 := by have := M.rights_length lo hi L; omega
      have hxl : (M.lefts lo hi L).length ≤ 500000000 := by have := M.lefts_length lo hi L; omega
      have hab : ∀ a ∈ M.lefts lo hi L, ∀ b ∈ sl, a.hi < b.lo := fun a ha b hb => by have := hxm a ha; have := hsb b hb; omega
      have HPRE := fun (k : Nat) (s : S) (h : sl[k]? = some s) => Lib.hid (M.foldl_pre hXW hsw hab h)
      have HLAY := Lib.hid (show M.lay L lo hi sl = (M.rights lo hi L).foldl M.join (sl.foldl M.join (M.lefts lo hi L)) from rfl)
      obtain ⟨hZ1, hZ2, hZ3⟩ := M.foldl_join hXW hsw hab
      have hzl : (sl.foldl M.join (M.lefts lo hi L)).length ≤ 500001000 := by omega
      have hab2 : ∀ a ∈ sl.foldl M.join (M.lefts lo hi L), ∀ b ∈ M.rights lo hi L, a.hi < b.lo := by
        intro a ha b hb
        have hok := hZ1.1 a ha
        have := hym b hb
        rcases (hZ2 a.hi a.v).1 ⟨a, ha, hok.2.1, Int.le_refl _, rfl⟩ with ⟨t, ht1, _, q2, _⟩ | ⟨t, ht1, _, q2, _⟩
        · have := hxm t ht1; omega
        · have := hsb t ht1; omega
      have HPRE2 := fun (k : Nat) (s : S) (h : (M.rights lo hi L)[k]? = some s) => Lib.hid (M.foldl_pre hZ1 hYW hab2 h)
      clear hZ2 hZ3 hab hab2 hZ1 hXW hYW hxm hym hsw hsb hsl
      generalize hXe : M.lefts lo hi L = X at *
      generalize hYe : M.rights lo hi L = Y at *
      clear hXe hYe hW hln
      generalize hme : sl.length = m at *
      generalize hye : Y.length = my at *
      have HM := Lib.hid hme
      have HY := Lib.hid hye
      clear hme hye
      have hp' : p < w.heap.size := hp
      go_wp2
      obtain ⟨wb, hwb⟩ : ∃ wb : World, wb = wr := ⟨_, rfl⟩
      subst hwb
      go_loopw [8, 81] (fun o i wr => ∃ k : Nat, k ≤ m ∧ i = .int .i64 k ∧ St w.heap.size w wr o (.slice Ar my cr) ((sl.take k).foldl M.join X) Y) (fun _ i _ => m - (intOf i).toNat)
      case atStart => exact ⟨0, Nat.zero_le _, rfl, hcut2⟩
      case round =>
        obtain ⟨j, hj, rfl, hst⟩ := hrel
        clear hcut2
        by_cases hjm : j < m
        · obtain ⟨s, hs⟩ : ∃ s, sl[j]? = some s := ⟨_, List.getElem?_eq_getElem (by rw [HM.out]; exact hjm)⟩
          obtain ⟨g, rfl, _, hgl, s0, s1, s2, _⟩ := hsr j s hs
          have hB := hst.2.2.2.1
          have t0 := (hB.cell (p := ⟨g, j * 3, none⟩) hgl).trans s0
          have t1 := (hB.cell (p := ⟨g, j * 3 + 1, none⟩) hgl).trans s1
          have t2 := (hB.cell (p := ⟨g, j * 3 + 2, none⟩) hgl).trans s2
          have HP := HPRE j s hs
          have EJ := Lib.hid (show (sl.take (j + 1)).foldl M.join X = M.join ((sl.take j).foldl M.join X) s by rw [M.take_snoc hs, List.foldl_append]; rfl)
          have HST := Lib.hid (hst.alloc (.cells #[.int .u64 s.lo, .int .u64 s.hi, .int .i64 s.v] 34))
          clear HPRE HPRE2 hsr hs s0 s1 s2 hB hst
          go_wp2_with fail
          refine (join_calls _ w.heap.size _ _ s HST.out.1 (by have := HP.out.2.2; omega) HST.out.2.2.2.2 HP.out.1 HP.out.2.1).mono ?_
          rintro e w' ⟨v', rfl, hR, hG, hat⟩
          go_wp2_with fail
          go_roundw
          case rel =>
            refine ⟨j + 1, by omega, by go_num, ?_⟩
            rw [EJ.out]
            exact HST.out.out hR hG hat
          case measure => simp [intOf]; omega
        · obtain rfl : j = m := by omega
          have hst2 : St w.heap.size w wr u8 (.slice Ar my cr) (sl.foldl M.join X) Y := by
            have e : sl.take j = sl := List.take_of_length_le (by rw [HM.out]; exact Nat.le_refl _)
            rw [e] at hst
            exact hst
          clear hst HPRE hsr HM hjm hj
          generalize sl.foldl M.join X = Z at *
          go_wp2
          obtain ⟨wb2, hwb2⟩ : ∃ wb2 : World, wb2 = wr := ⟨_, rfl⟩
          subst hwb2
          go_loopw [8, 91] (fun o i wr => ∃ k : Nat, k ≤ my ∧ i = .int .i64 k ∧ St w.heap.size w wr o (.slice Ar my cr) ((Y.take k).foldl M.join Z) Y) (fun _ i _ => my - (intOf i).toNat)
          case atStart => exact ⟨0, Nat.zero_le _, rfl, hst2⟩
          case round =>
            obtain ⟨q, hq, rfl, hst⟩ := hrel
            clear hst2
            by_cases hqm : q < my
            · obtain ⟨s, hs⟩ : ∃ s, Y[q]? = some s := ⟨_, List.getElem?_eq_getElem (by rw [HY.out]; exact hqm)⟩
              have hyr := hst.2.1.cells
              obtain ⟨g, rfl, hgl, t0, t1, t2⟩ := hyr q s hs
              have HP := HPRE2 q s hs
              have EJ := Lib.hid (show (Y.take (q + 1)).foldl M.join Z = M.join ((Y.take q).foldl M.join Z) s by rw [M.take_snoc hs, List.foldl_append]; rfl)
              have HST := Lib.hid (hst.alloc (.cells #[.int .u64 s.lo, .int .u64 s.hi, .int .i64 s.v] 34))
              clear HPRE2 hyr hs hst
              go_wp2_with fail
              refine (join_calls _ w.heap.size _ _ s HST.out.1 (by have := HP.out.2.2; omega) HST.out.2.2.2.2 HP.out.1 HP.out.2.1).mono ?_
              rintro e w' ⟨v', rfl, hR, hG, hat⟩
              go_wp2_with fail
              go_roundw
              case rel =>
                refine ⟨q + 1, by omega, by go_num, ?_⟩
                rw [EJ.out]
                exact HST.out.out hR hG hat
              case measure => simp [intOf]; omega
            · obtain rfl : q = my := by omega
              have hst2 : St w.heap.size w wr u8 (.slice Ar q cr) (Y.foldl M.join Z) Y := by
                have e : Y.take q = Y := List.take_of_length_le (by rw [HY.out]; exact Nat.le_refl _)
                rw [e] at hst
                exact hst
              have hB := hst.2.2.2.1
              have t0 := (hB.cell (p := ⟨p, 0, none⟩) hp).trans hc00
              have t1 := (hB.frozen (p := ⟨p, 0, none⟩) hp).trans hf0
              obtain ⟨Ao, co, rfl, _, _, _⟩ := hst2.1.read
              clear hst HPRE2 HY hqm hq
              go_wp2
              go_end0
              exact ⟨rfl, _, _, by rw [HLAY.out]; exact hst2.1, hB, rfl⟩

/-- A map's cell is written anew: what stands there now; nothing else has turned. -/
theorem MapAt.laid {w wr : World} {base p : Nat} {L l : List S} {o : Value} (h : MapAt w base p L) (hb : Below w.heap.size w wr) (hr : RowAt wr w.heap.size o l) :
    MapAt (wr.setCell ⟨p, 0, none⟩ o) 0 p l ∧ w.grownBy (wr.setCell ⟨p, 0, none⟩ o) (some p) := by
  have hlt := h.lt
  obtain ⟨A, c, hp, hrow⟩ := h
  have hp' : wr.heap[p]? = some (.cells #[.slice A L.length c] 98 (0, 0)) := (hb.block p hlt).trans hp
  obtain ⟨A', c', rfl, _, _, _⟩ := hr.read
  have hg : wr.grownBy (wr.setCell ⟨p, 0, none⟩ (.slice A' l.length c')) (some p) :=
    ⟨rfl, rfl, rfl, by simp [World.setCell], fun k _ hk => Below.heap_setCell _ _ _ _ (fun e => hk (by rw [e]))⟩
  have hne : (Value.slice A' l.length c').ownBlock = none ∨ (Value.slice A' l.length c').ownBlock ≠ some p := by
    cases hv : (Value.slice A' l.length c').ownBlock with
    | none => exact .inl rfl
    | some b =>
      refine .inr fun e => ?_
      injection e with e
      have := (World.ownsRow.lt hr b hv).1
      omega
  have hk := World.ownsRow.kept hr hg hne
  refine ⟨⟨A', c', ?_, ?_⟩, ⟨hb.os, hb.tape, hb.output, Nat.le_trans hb.size hg.size, fun k hk' hne' => (hg.block k (Nat.lt_of_lt_of_le hk' hb.size) hne').trans (hb.block k hk')⟩⟩
  · have := heap_setCell_same wr p 0 _ 98 (.slice A' l.length c') hp'
    simpa using this
  · obtain ⟨h1, h2⟩ := hk
    refine ⟨h1, h2.imp id fun ⟨g, cap, cur, e1, _, e3⟩ => ⟨g, cap, cur, e1, Nat.zero_le _, e3⟩⟩

/-- lay, as one contract. -/
theorem lay_calls (w : World) (base p : Nat) (L : List S) (lo hi : Int) (vs : Value) (bs : Nat) (sl : List S) (hM : MapAt w base p L) (hn : L.length ≤ 500000000)
    (hW : M.WF L) (h0 : 0 ≤ lo) (hlh : lo ≤ hi) (ht : hi ≤ M.top) (hsl : RowAt w bs vs sl) (hsn : sl.length ≤ 1000) (hsw : M.WF sl) (hsb : ∀ s ∈ sl, s.lo = lo ∧ s.hi = hi) :
    Calls Try.prog 61 #[.pointer (some ⟨p, 0, none⟩), .int .u64 lo, .int .u64 hi, vs] w fun e w' => e = .returned (.tuple #[]) ∧ MapAt w' 0 p (M.lay L lo hi sl) ∧ w.grownBy w' (some p) := by
  obtain ⟨A, c, hc0, hp, hrow⟩ := hM.read
  have hf : w.frozen? ⟨p, 0, none⟩ = false := by
    obtain ⟨A', c', hp', _⟩ := hM
    simp [World.frozen?, hp']
  refine (lay_core w p L.length c A L lo hi vs rfl hn hW h0 hlh ht hp hc0 hf (fun i s hs => ?_) bs sl hsl hsn hsw hsb).mono ?_
  · obtain ⟨g, e, b, _, c0, c1, c2⟩ := hrow i s hs
    exact ⟨g, e, b, c0, c1, c2⟩
  · rintro e w' ⟨rfl, o, wr, hr, hb, rfl⟩
    exact ⟨rfl, hM.laid hb hr⟩

end Go.Proofs.Ythkolpjbkbcmbaa
