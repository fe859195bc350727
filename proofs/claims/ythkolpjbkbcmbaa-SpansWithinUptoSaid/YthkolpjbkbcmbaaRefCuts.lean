/- The walks of the reference's put, Cuts and end. -/
import Derived.Test.YthkolpjbkbcmbaaRef
set_option linter.unusedVariables false
set_option linter.unusedSimpArgs false
namespace Go.Proofs.Ythkolpjbkbcmbaa
open Go.RowKit

namespace M
/-- A list of rising keys with one key more. -/
structure Put (l : List Int) (k : Int) (m : List Int) : Prop where
  cut : Cut m
  mem : ∀ x, x ∈ m ↔ x ∈ l ∨ x = k
  len : m.length ≤ l.length + 1

/-- What stands behind the first i keys, none of them k. -/
structure Mid (l : List Int) (k : Int) (i : Nat) (done : Bool) (m : List Int) : Prop where
  cut : Cut m
  mem : ∀ x, x ∈ m ↔ x ∈ l.take i ∨ (done = true ∧ x = k)
  len : m.length ≤ i + 1
  len2 : done = false → m.length ≤ i
  low : done = false → ∀ x ∈ m, x < k
  up : ∀ x ∈ m, ∀ y ∈ l.drop i, x < y

theorem cut_snoc {l : List Int} {x : Int} (h : Cut l) (hx : ∀ y ∈ l, y < x) : Cut (l ++ [x]) := by
  unfold Cut
  rw [List.pairwise_append]
  exact ⟨h, by simp, by simpa using hx⟩

theorem drop_at {l : List Int} {i : Nat} {x : Int} (h : l[i]? = some x) : l.drop i = x :: l.drop (i + 1) := by
  obtain ⟨hi, rfl⟩ := List.getElem?_eq_some_iff.1 h
  exact List.drop_eq_getElem_cons hi

variable {l m : List Int} {k x : Int} {i : Nat} {done : Bool}

theorem Mid.start (hl : Cut l) : Mid l k 0 false [] := ⟨List.Pairwise.nil, by simp, by simp, by simp, by simp, by simp⟩

theorem Mid.put (h : Mid l k i false m) (hx : l[i]? = some x) (hl : Cut l) (hkx : k < x) : Mid l k i true (m ++ [k]) := by
  refine ⟨cut_snoc h.cut (h.low rfl), fun y => ?_, by have := h.len2 rfl; simp; omega, by simp, by simp, fun y hy z hz => ?_⟩
  · rw [List.mem_append, List.mem_singleton, h.mem]; simp
  · rcases List.mem_append.1 hy with hy | hy
    · exact h.up y hy z hz
    · rw [List.mem_singleton.1 hy]
      rw [drop_at hx] at hz
      rcases List.mem_cons.1 hz with rfl | hz
      · exact hkx
      · obtain ⟨j, hj⟩ := List.getElem?_of_mem hz
        rw [List.getElem?_drop] at hj
        have := hl.lt hx hj (by omega)
        omega

theorem Mid.next (h : Mid l k i done m) (hx : l[i]? = some x) (hl : Cut l) (hlow : done = false → x < k) : Mid l k (i + 1) done (m ++ [x]) := by
  have hup : ∀ y ∈ m, y < x := fun y hy => h.up y hy x (by rw [drop_at hx]; simp)
  refine ⟨cut_snoc h.cut hup, fun y => ?_, by have := h.len; simp; omega, fun hd => by have := h.len2 hd; simp; omega, fun hd y hy => ?_, fun y hy z hz => ?_⟩
  · rw [List.mem_append, List.mem_singleton, h.mem, take_snoc hx, List.mem_append, List.mem_singleton]
    constructor
    · rintro ((a | a) | a)
      · exact .inl (.inl a)
      · exact .inr a
      · exact .inl (.inr a)
    · rintro ((a | a) | a)
      · exact .inl (.inl a)
      · exact .inr a
      · exact .inl (.inr a)
  · rcases List.mem_append.1 hy with hy | hy
    · exact h.low hd y hy
    · rw [List.mem_singleton.1 hy]; exact hlow hd
  · rcases List.mem_append.1 hy with hy | hy
    · exact h.up y hy z (by rw [drop_at hx]; exact List.mem_cons_of_mem _ hz)
    · rw [List.mem_singleton.1 hy]
      obtain ⟨j, hj⟩ := List.getElem?_of_mem hz
      rw [List.getElem?_drop] at hj
      exact hl.lt hx hj (by omega)

theorem Mid.fin (h : Mid l k l.length true m) : Put l k m := ⟨h.cut, fun y => by rw [h.mem, List.take_length]; simp, h.len⟩
theorem Mid.last (h : Mid l k l.length false m) : Put l k (m ++ [k]) :=
  ⟨cut_snoc h.cut (h.low rfl), fun y => by rw [List.mem_append, List.mem_singleton, h.mem, List.take_length]; simp, by have := h.len2 rfl; simp; omega⟩
theorem Put.here (hl : Cut l) (hk : l[i]? = some k) : Put l k l := ⟨hl, fun y => ⟨.inl, fun h => h.elim id fun h => by rw [h]; exact List.mem_of_getElem? hk⟩, by omega⟩
end M

theorem RowU.mono {w : World} {B B' : Nat} {v : Value} {l : List Int} (h : RowU w B v l) (hb : B' ≤ B) : RowU w B' v l :=
  ⟨⟨h.1.1, h.1.2.imp id fun ⟨g, cap, cur, e1, e2, e3⟩ => ⟨g, cap, cur, e1, Nat.le_trans hb e2, e3⟩⟩, h.2⟩

set_option maxRecDepth 100000 in
set_option maxHeartbeats 2000000 in
theorem put_calls (w : World) (B n c : Nat) (A : Option Addr) (l : List Int) (k : Int) (hR : RowU w B (.slice A n c) l) (hln : l.length = n) (hn : n ≤ 900000000) (hl : M.Cut l) (hk : inU k) (hB0 : B ≤ w.heap.size) :
    Calls Try.prog 68 #[.slice A n c, .int .u64 k] w fun e w' => ∃ v' l', e = .returned v' ∧ RowU w' B v' l' ∧ M.Put l k l' ∧ Below w.heap.size w w' := by
  have hrd := hR.read
  obtain ⟨A', c', hv, hcell⟩ := hrd
  injection hv with e1 e2 e3
  clear e2; subst e1; subst e3
  have HR := Lib.hid hR
  have HN := Lib.hid hln
  have HU := Lib.hid hR.2
  have HK := Lib.hid hk
  have hH0 := Lib.hid (World.ownsRow_nil w w.heap.size 27 1)
  clear hR hln hk
  go_enter Try.func68, Try.ntmps68
  go_wp2_with fail
  go_loopw [5, 6, 7] (fun o d i wr => ∃ (j : Nat) (dn : Bool) (m : List Int), j ≤ n ∧ i = .int .i64 j ∧ d = .bool dn ∧ RowU wr w.heap.size o m ∧ Hid (M.Mid l k j dn m) ∧ Below w.heap.size w wr ∧ w.heap.size ≤ wr.heap.size) (fun _ _ i _ => n - (intOf i).toNat)
  case atStart => exact ⟨0, false, [], Nat.zero_le _, rfl, rfl, ⟨hH0.out, by simp⟩, M.Mid.start hl, Below.refl _ _, Nat.le_refl _⟩
  case round =>
    obtain ⟨j, dn, m, hj, rfl, rfl, hRm, HM, hB, hBz⟩ := hrel
    have hml : m.length ≤ 1000000000 := by have := HM.out.len; omega
    by_cases hjn : j < n
    · obtain ⟨x, hx⟩ : ∃ x, l[j]? = some x := ⟨_, List.getElem?_eq_getElem (by rw [HN.out]; exact hjn)⟩
      obtain ⟨g, rfl, _, hgl, c0⟩ := hcell j x hx
      have t0 := (hB.cell (p := ⟨g, j, none⟩) hgl).trans c0
      have HX := Lib.hid hx
      have HRM := Lib.hid hRm
      have HBB := Lib.hid hB
      have hxu := Lib.hid (HU.out x (List.mem_of_getElem? hx))
      clear c0 hx hcell hRm hB
      by_cases hxk : x = k
      · have q : (x == k) = true := by simpa using hxk
        have HP := Lib.hid (show M.Put l k l from M.Put.here hl (hxk ▸ HX.out))
        clear hxk
        go_wp2_with fail
        go_ret
        refine ⟨_, l, rfl, ?_, HP.out, HBB.out⟩
        have h := HR.out.below HBB.out
        exact h
      · have q : (x == k) = false := by simpa using hxk
        cases dn with
        | true =>
          have HM2 := Lib.hid (HM.out.next HX.out hl (by simp))
          clear hxk
          go_wp2_with (at_builtin; (refine app_key w.heap.size rfl (.tmp 35) (.tmp 40) rfl _ m x rfl rfl (by simp) HRM.out hxu.out hml HBB.out hBz ?_); intro v' w' hR' hbb hBB)
          go_roundw
          case rel => exact ⟨j + 1, true, _, by omega, by go_num, rfl, hR', HM2.out, hbb, hBB⟩
          case measure => simp [intOf]; omega
        | false =>
          by_cases hkx : k < x
          · have HM1 := Lib.hid (HM.out.put HX.out hl hkx)
            have HM2 := Lib.hid (HM1.out.next HX.out hl (by simp))
            have hml2 : (m ++ [k]).length ≤ 1000000000 := by have := HM1.out.len; omega
            clear hxk
            go_wp2_with (first
              | (at_builtin; (refine app_key w.heap.size rfl (.tmp 31) (.tmp 33) rfl _ m k rfl rfl (by simp) HRM.out HK.out hml HBB.out hBz ?_); intro v1 w1 hR1 hbb1 hBB1; have s0 := (hbb1.cell (p := ⟨g, j, none⟩) hgl).trans ((HBB.out.cell (p := ⟨g, j, none⟩) hgl).symm.trans t0); have HR1 := Lib.hid hR1; have HB1 := Lib.hid hbb1; clear hR1 hbb1)
              | (at_builtin; (refine app_key w.heap.size rfl (.tmp 35) (.tmp 40) rfl _ (m ++ [k]) x rfl rfl (by simp) HR1.out hxu.out hml2 HB1.out hBB1 ?_); intro v' w' hR' hbb hBB))
            go_roundw
            case rel => exact ⟨j + 1, true, _, by omega, by go_num, rfl, hR', HM2.out, hbb, hBB⟩
            case measure => simp [intOf]; omega
          · have HM2 := Lib.hid (HM.out.next HX.out hl (fun _ => by omega))
            clear hxk
            go_wp2_with (at_builtin; (refine app_key w.heap.size rfl (.tmp 35) (.tmp 40) rfl _ m x rfl rfl (by simp) HRM.out hxu.out hml HBB.out hBz ?_); intro v' w' hR' hbb hBB)
            go_roundw
            case rel => exact ⟨j + 1, false, _, by omega, by go_num, rfl, hR', HM2.out, hbb, hBB⟩
            case measure => simp [intOf]; omega
    · obtain rfl : j = n := by omega
      have HRM := Lib.hid hRm
      have HBB := Lib.hid hB
      clear hcell hRm hB
      cases dn with
      | true =>
        have HP := Lib.hid (show M.Put l k m by have h := HM.out; rw [← HN.out] at h; exact h.fin)
        go_wp2_with fail
        go_ret
        refine ⟨_, m, rfl, HRM.out.mono hB0, HP.out, HBB.out⟩
      | false =>
        have HP := Lib.hid (show M.Put l k (m ++ [k]) by have h := HM.out; rw [← HN.out] at h; exact h.last)
        go_wp2_with (at_builtin; (refine app_key w.heap.size rfl (.tmp 44) (.tmp 46) rfl _ m k rfl rfl (by simp) HRM.out HK.out hml HBB.out hBz ?_); intro v' w' hR' hbb hBB)
        go_ret
        exact ⟨_, _, rfl, hR'.mono hB0, HP.out, hbb⟩

namespace M
/-- The cuts of what was done, and the keys that stood there. -/
structure Cuts (D : List Dn) (l : List Int) (m : List Int) : Prop where
  cut : Cut m
  mem : ∀ x, x ∈ m ↔ x ∈ l ∨ x = 0 ∨ Marks D x
  len : m.length ≤ l.length + 1 + 2 * D.length

theorem Marks.snoc {D : List Dn} {d : Dn} {x : Int} : Marks (D ++ [d]) x ↔ Marks D x ∨ x = d.lo ∨ (d.hi < top ∧ x = d.hi + 1) := by
  unfold Marks
  simp [or_and_right, exists_or]

theorem Cuts.start {l m : List Int} (h : Put l 0 m) : Cuts [] l m := ⟨h.cut, fun x => by rw [h.mem]; simp [Marks], by have := h.len; simp; omega⟩
theorem Cuts.one {D : List Dn} {d : Dn} {l m m' : List Int} (h : Cuts D l m) (h1 : Put m d.lo m') (ht : ¬ d.hi < top) : Cuts (D ++ [d]) l m' :=
  ⟨h1.cut, fun x => by rw [h1.mem, h.mem, Marks.snoc]; simp only [ht, false_and, or_false]; simp only [or_assoc], by have := h1.len; have := h.len; simp; omega⟩
theorem Cuts.two {D : List Dn} {d : Dn} {l m m' m'' : List Int} (h : Cuts D l m) (h1 : Put m d.lo m') (h2 : Put m' (d.hi + 1) m'') (ht : d.hi < top) : Cuts (D ++ [d]) l m'' :=
  ⟨h2.cut, fun x => by rw [h2.mem, h1.mem, h.mem, Marks.snoc]; simp only [ht, true_and]; simp only [or_assoc], by have := h1.len; have := h2.len; have := h.len; simp; omega⟩
end M

theorem put_row (w : World) (B : Nat) (v : Value) (l : List Int) (k : Int) (hR : RowU w B v l) (hn : l.length ≤ 900000000) (hl : M.Cut l) (hk : inU k) (hB0 : B ≤ w.heap.size) :
    Calls Try.prog 68 #[v, .int .u64 k] w fun e w' => ∃ v' l', e = .returned v' ∧ RowU w' B v' l' ∧ M.Put l k l' ∧ Below w.heap.size w w' := by
  obtain ⟨A, c, rfl, _⟩ := hR.read
  exact put_calls w B l.length c A l k hR rfl hn hl hk hB0

set_option maxRecDepth 100000 in
set_option maxHeartbeats 2000000 in
theorem cuts_calls (w : World) (B p : Nat) (D : List M.Dn) (v : Value) (l : List Int) (hD : RefAt w B p D) (hR : RowU w B v l) (hl : M.Cut l) (hll : l.length ≤ 400000000) (hn : D.length ≤ 100000000) (hB0 : B ≤ w.heap.size) :
    Calls Try.prog 59 #[.pointer (some ⟨p, 0, none⟩), v] w fun e w' => ∃ v' l', e = .returned v' ∧ RowU w' B v' l' ∧ M.Cuts D l l' ∧ Below w.heap.size w w' := by
  obtain ⟨A, c, hc, _, hlt, _, hcell⟩ := hD.read
  have hok := hD.ok
  have h0 := Lib.hid (put_row w B v l 0 hR (by omega) hl ⟨by omega, by unfold M.top; omega⟩ hB0)
  clear hD hR hl
  generalize hln : D.length = n at *
  have HN := Lib.hid hln
  clear hln
  go_enter Try.func59, Try.ntmps59
  go_wp2_with fail
  refine h0.out.mono ?_
  rintro e w1 ⟨v1, l1, rfl, hR1, hP1, hB1⟩
  have HC1 := Lib.hid (M.Cuts.start hP1)
  have hB1s := hB1.size
  clear hP1 h0
  go_wp2_with fail
  go_loopw [1, 5] (fun o i wr => ∃ (j : Nat) (m : List Int), j ≤ n ∧ i = .int .i64 j ∧ RowU wr B o m ∧ Hid (M.Cuts (D.take j) l m) ∧ Below w.heap.size w wr) (fun _ i _ => n - (intOf i).toNat)
  case atStart => exact ⟨0, _, Nat.zero_le _, rfl, hR1, HC1, hB1⟩
  case round =>
    obtain ⟨j, m, hj, rfl, hRm, HM, hB⟩ := hrel
    have tp := (hB.cell (p := ⟨p, 0, none⟩) hlt).trans hc
    have hBz := hB.size
    have hml : m.length ≤ 800000000 := by have := HM.out.len; have := List.length_take_le j D; omega
    clear hR1 HC1 hB1 hB1s
    by_cases hjn : j < n
    · obtain ⟨d, hd⟩ : ∃ d, D[j]? = some d := ⟨_, List.getElem?_eq_getElem (by rw [HN.out]; exact hjn)⟩
      obtain ⟨g, rfl, hgl, c0, c1, c2, c3⟩ := hcell j d hd
      have t0 := (hB.cell (p := ⟨g, j * 4, none⟩) hgl).trans c0
      have hdo := hok d (List.mem_of_getElem? hd)
      have d1 := hdo.1
      have d2 := hdo.2.1
      have d3 : d.hi ≤ 18446744073709551615 := hdo.2.2.1
      have HT := Lib.hid (M.take_snoc hd)
      have hP := Lib.hid (put_row wr B _ m d.lo hRm (by omega) HM.out.cut ⟨d1, by unfold M.top; omega⟩ (by omega))
      clear hd c0 c2 c3 hdo hcell hok hc
      go_wp2_with fail
      refine hP.out.mono ?_
      rintro e w2 ⟨v2, l2, rfl, hR2, hP2, hb2⟩
      have hB2 := below_then hB hBz hb2
      have tp2 := (hb2.cell (p := ⟨p, 0, none⟩) (by simp; omega)).trans tp
      have t1 := (hB2.cell (p := ⟨g, j * 4 + 1, none⟩) hgl).trans c1
      have hl2 : l2.length ≤ 800000001 := by have := hP2.len; omega
      have hb2s := hb2.size
      clear hP tp t0 c1 hB hRm
      by_cases ht : d.hi < 18446744073709551615
      · have hP' := Lib.hid (put_row w2 B _ l2 (d.hi + 1) hR2 (by omega) hP2.cut ⟨by omega, by unfold M.top; omega⟩ (by omega))
        have HP2 := Lib.hid hP2
        clear hP2 hR2
        go_wp2_with fail
        refine hP'.out.mono ?_
        rintro e w3 ⟨v3, l3, rfl, hR3, hP3, hb3⟩
        have HF := Lib.hid (show M.Cuts (D.take (j + 1)) l l3 by rw [HT.out]; exact HM.out.two HP2.out hP3 ht)
        have hB3 := below_then hB2 (by omega) hb3
        clear hP3 hP' hB2 hb2 hb3
        go_wp2_with fail
        go_roundw
        case rel => exact ⟨j + 1, _, by omega, by go_num, hR3, HF.out, hB3⟩
        case measure => simp [intOf]; omega
      · have HF := Lib.hid (show M.Cuts (D.take (j + 1)) l l2 by rw [HT.out]; exact HM.out.one hP2 ht)
        clear hP2 hb2
        go_wp2_with fail
        go_roundw
        case rel => exact ⟨j + 1, _, by omega, by go_num, hR2, HF.out, hB2⟩
        case measure => simp [intOf]; omega
    · obtain rfl : j = n := by omega
      have HF := Lib.hid (show M.Cuts D l m by have h := HM.out; rw [List.take_of_length_le (by rw [HN.out]; exact Nat.le_refl _)] at h; exact h)
      clear hcell hc
      go_wp2_with fail
      go_ret
      exact ⟨_, m, rfl, hRm, HF.out, hB⟩

set_option maxRecDepth 100000 in
theorem end_calls (w : World) (n c : Nat) (A : Option Addr) (l : List Int) (i : Nat) (hln : l.length = n) (hn : n ≤ 1000000000) (hi : i < n) (hu : ∀ x ∈ l, inU x) (hpos : ∀ x, l[i + 1]? = some x → 1 ≤ x)
    (hcell : ∀ j x, l[j]? = some x → ∃ g, A = some ⟨g, 0, none⟩ ∧ w.cell? ⟨g, j, none⟩ = some (.int .u64 x)) :
    Calls Try.prog 60 #[.slice A n c, .int .i64 i] w fun e w' => e = .returned (.int .u64 (M.bnd l (i + 1) - 1)) ∧ w' = w := by
  unfold M.bnd
  by_cases h : i + 1 < n
  · obtain ⟨x, hx⟩ : ∃ x, l[i + 1]? = some x := ⟨_, List.getElem?_eq_getElem (by omega)⟩
    obtain ⟨g, rfl, t0⟩ := hcell (i + 1) x hx
    have hxu := hu x (List.mem_of_getElem? hx)
    have x0 := hpos x hx
    have x1 : x ≤ 18446744073709551615 := hxu.2
    rw [hx]
    clear hcell hu hx hpos hln hxu
    have q : ((i : Int) + 1).toNat = i + 1 := by omega
    go_enter Try.func60, Try.ntmps60
    go_wp2_with fail
    go_ret
    exact ⟨rfl, rfl⟩
  · rw [List.getElem?_eq_none (by omega)]
    clear hcell hu hpos hln
    go_enter Try.func60, Try.ntmps60
    go_wp2_with fail
    go_ret
    exact ⟨rfl, rfl⟩

end Go.Proofs.Ythkolpjbkbcmbaa
