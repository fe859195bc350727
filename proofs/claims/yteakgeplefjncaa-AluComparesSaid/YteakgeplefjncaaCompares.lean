/- The walk of AluCompares. -/
import Derived.Test.YteakgeplefjncaaPassed
set_option linter.unusedVariables false
set_option linter.unusedSimpArgs false
namespace Go.Proofs.Yteakgeplefjncaa
open Go.RowKit

theorem law_signed_calls (w : World) (x : Int) (hx : W32 x) :
    Calls Try.prog 32 #[u x] w fun e w' => e = .returned (.int .i64 (sgn x)) ∧ w' = w := by
  have e5 : wrap32 x = sgn x := by obtain ⟨x0, x1⟩ := hx; unfold wrap32 sgn; split <;> omega
  have e7 : wrap64 (sgn x) = sgn x := by obtain ⟨x0, x1⟩ := hx; unfold wrap64 sgn; split <;> omega
  go_enter Try.func32, Try.ntmps32
  go_wp2_with fail
  exact bodyPost_ret (v := .int .i64 (sgn x)) (by simp [results, Try.results32, go_sem, e5, e7]) rfl ⟨rfl, rfl⟩

/-- The sixteen answers behind a comparison. -/
def wants (a b X : Int) : List Bool := [a == b, a != b, decide (b ≤ a), decide (a < b), decide (wrap32 X < 0), decide (0 ≤ wrap32 X), sgn a - sgn b != sgn X, sgn a - sgn b == sgn X,
  decide (b < a), decide (a ≤ b), decide (sgn b ≤ sgn a), decide (sgn a < sgn b), decide (sgn b < sgn a), decide (sgn a ≤ sgn b), true, false]
theorem sum_cmp {a b : Int} (ha : W32 a) (hb : W32 b) : sum a (NOT b) true = ((a - b) % 4294967296, ⟨top ((a - b) % 4294967296), (a - b) % 4294967296 == 0, decide (b ≤ a), sgn a - sgn b != sgn ((a - b) % 4294967296)⟩) := by
  rw [NOT_eq hb]
  obtain ⟨a0, a1⟩ := ha
  obtain ⟨b0, b1⟩ := hb
  unfold sum marks
  simp only [one?, if_true]
  have e1 : (a + (4294967295 - b) + 1) % 4294967296 = (a - b) % 4294967296 := by omega
  have e2 : sgn (4294967295 - b) = -1 - sgn b := by unfold sgn; split <;> split <;> omega
  rw [e1, e2, show sgn a + (-1 - sgn b) + 1 = sgn a - sgn b by omega]
  have e3 : decide (4294967296 ≤ a + (4294967295 - b) + 1) = decide (b ≤ a) := by rw [decide_eq_decide]; omega
  rw [e3]
theorem wants_passed {a b : Int} (ha : W32 a) (hb : W32 b) (k : Nat) (hk : k < 16) :
    (wants a b ((a - b) % 4294967296))[k]? = some (passed k ⟨top ((a - b) % 4294967296), (a - b) % 4294967296 == 0, decide (b ≤ a), sgn a - sgn b != sgn ((a - b) % 4294967296)⟩) := by
  obtain ⟨a0, a1⟩ := ha
  obtain ⟨b0, b1⟩ := hb
  obtain ⟨X, hX⟩ : ∃ X, (a - b) % 4294967296 = X := ⟨_, rfl⟩
  have hXb : 0 ≤ X ∧ X < 4294967296 := by omega
  have hXc : X = a - b ∨ X = a - b + 4294967296 := by omega
  have hz : (X == 0) = (a == b) := by rw [Bool.eq_iff_iff]; simp; omega
  have ht : top X = decide (wrap32 X < 0) := by unfold top wrap32; rw [decide_eq_decide]; omega
  have ht2 : (!top X) = decide (0 ≤ wrap32 X) := by unfold top wrap32; rw [Bool.eq_iff_iff]; simp; omega
  have hs : (top X == (sgn a - sgn b != sgn X)) = decide (sgn b ≤ sgn a) := by
    rw [Bool.eq_iff_iff]
    unfold top sgn
    by_cases k1 : 2147483648 ≤ X <;> by_cases k2 : 2147483648 ≤ a <;> by_cases k3 : 2147483648 ≤ b <;> simp [k1, k2, k3] <;> omega
  rw [hX]
  rcases (show k = 0 ∨ k = 1 ∨ k = 2 ∨ k = 3 ∨ k = 4 ∨ k = 5 ∨ k = 6 ∨ k = 7 ∨ k = 8 ∨ k = 9 ∨ k = 10 ∨ k = 11 ∨ k = 12 ∨ k = 13 ∨ k = 14 ∨ k = 15 by omega) with rfl | rfl | rfl | rfl | rfl | rfl | rfl | rfl | rfl | rfl | rfl | rfl | rfl | rfl | rfl | rfl
  · show some (a == b) = some (X == 0); rw [hz]
  · show some (a != b) = some (!(X == 0)); rw [hz]; rfl
  · rfl
  · show some (decide (a < b)) = some (!decide (b ≤ a)); congr 1; rw [Bool.eq_iff_iff]; simp
  · show some _ = some (top X); rw [ht]
  · show some _ = some (!top X); rw [ht2]
  · rfl
  · show some (sgn a - sgn b == sgn X) = some (!(!(sgn a - sgn b == sgn X))); rw [Bool.not_not]
  · show some (decide (b < a)) = some (decide (b ≤ a) && !(X == 0)); rw [hz]; congr 1; rw [Bool.eq_iff_iff]; simp; omega
  · show some (decide (a ≤ b)) = some (!decide (b ≤ a) || X == 0); rw [hz]; congr 1; rw [Bool.eq_iff_iff]; simp; omega
  · show some _ = some (top X == (sgn a - sgn b != sgn X)); rw [hs]
  · show some (decide (sgn a < sgn b)) = some (!(top X == (sgn a - sgn b != sgn X))); rw [hs]; congr 1; rw [Bool.eq_iff_iff]; simp
  · show some (decide (sgn b < sgn a)) = some (!(X == 0) && top X == (sgn a - sgn b != sgn X)); rw [hs, hz]; congr 1; rw [Bool.eq_iff_iff]; unfold sgn; simp; split <;> split <;> omega
  · show some (decide (sgn a ≤ sgn b)) = some (X == 0 || !(top X == (sgn a - sgn b != sgn X))); rw [hs, hz]; congr 1; rw [Bool.eq_iff_iff]; unfold sgn; simp; split <;> split <;> omega
  · rfl
  · rfl

/-- What lies there while the conditions are asked. -/
structure Cx (w : World) (q Q : Nat) (g : F) : Prop where
  lq : q < w.heap.size
  lQ : Q < w.heap.size
  fb : FB w q g.n g.z g.c g.v
  wants : ∀ k : Nat, k < 16 → w.cell? ⟨Q, k, none⟩ = some (.bool (passed k g))
theorem Cx.keep {w w' : World} {q Q : Nat} {g : F} (h : Cx w q Q g) (hb : Below w.heap.size w w') : Cx w' q Q g :=
  ⟨Nat.lt_of_lt_of_le h.lq hb.size, Nat.lt_of_lt_of_le h.lQ hb.size, fb_keep h.lq hb h.fb, fun k hk => (hb.cell h.lQ).trans (h.wants k hk)⟩
theorem box5 {v w3 : World} {p Q k : Nat} {x0 x1 x2 x3 y : Value} (hp : p < v.heap.size) (hQ : Q < v.heap.size) (hb : Below v.heap.size v w3)
    (h : v.cell? ⟨p, 0, none⟩ = some x0 ∧ v.cell? ⟨p, 1, none⟩ = some x1 ∧ v.cell? ⟨p, 2, none⟩ = some x2 ∧ v.cell? ⟨p, 3, none⟩ = some x3 ∧ v.cell? ⟨Q, k, none⟩ = some y) :
    w3.cell? ⟨p, 0, none⟩ = some x0 ∧ w3.cell? ⟨p, 1, none⟩ = some x1 ∧ w3.cell? ⟨p, 2, none⟩ = some x2 ∧ w3.cell? ⟨p, 3, none⟩ = some x3 ∧ w3.cell? ⟨Q, k, none⟩ = some y :=
  ⟨(hb.cell hp).trans h.1, (hb.cell hp).trans h.2.1, (hb.cell hp).trans h.2.2.1, (hb.cell hp).trans h.2.2.2.1, (hb.cell hQ).trans h.2.2.2.2⟩

set_option maxRecDepth 100000 in
set_option maxHeartbeats 4000000 in
theorem compares_core (w : World) (a b : Int) (s : Bool) (f : F) (ha : W32 a) (hb : W32 b) :
    Calls Try.prog 9 #[u a, u b, .bool s, f.val] w fun e w' => e = .returned (.bool true) ∧ Below w.heap.size w w' := by
  have HL := fun w => Lib.hid (live_calls w)
  have HPs := fun w k n z c v => Lib.hid (passed_calls w k ⟨n, z, c, v⟩)
  simp only [F.val] at HPs
  have HD := fun w => do_calls w 11 a b s f ha hb
  rw [show doM 11 a b s f = ((sum a (NOT b) true).1, false, (sum a (NOT b) true).2) from rfl, sum_cmp ha hb] at HD
  have HWP := Lib.hid (fun k hk => wants_passed ha hb k hk)
  have hX : W32 ((a - b) % 4294967296) := ⟨by omega, by omega⟩
  have SA := fun w => Lib.hid (law_signed_calls w a ha)
  have SB := fun w => Lib.hid (law_signed_calls w b hb)
  have SX := fun w => Lib.hid (law_signed_calls w _ hX)
  have sa : -2147483648 ≤ sgn a ∧ sgn a < 2147483648 := by obtain ⟨x0, x1⟩ := ha; unfold sgn; split <;> omega
  have sb : -2147483648 ≤ sgn b ∧ sgn b < 2147483648 := by obtain ⟨x0, x1⟩ := hb; unfold sgn; split <;> omega
  have e1 : wrap64 (sgn a - sgn b) = sgn a - sgn b := by unfold wrap64; omega
  generalize hXe : (a - b) % 4294967296 = X at *
  obtain ⟨g, hg⟩ : ∃ g : F, (⟨top X, X == 0, decide (b ≤ a), sgn a - sgn b != sgn X⟩ : F) = g := ⟨_, rfl⟩
  rw [hg] at HD HWP
  obtain ⟨gn, gz, gc, gv⟩ := g
  obtain ⟨fn, fz, fc, fv⟩ := f
  simp only [D3, F.val] at HD ⊢
  have HD := fun w => Lib.hid (HD w)
  clear hg sa sb hX ha hb
  go_enter Try.func9, Try.ntmps9
  go_wp2_with fail
  refine (HD _).out.mono ?_
  rintro e v1 ⟨rfl, hb⟩
  have HB := Lib.hid (below_unalloc hb)
  clear hb
  go_wp2_with fail
  refine (HL _).out.mono ?_
  rintro e v2 ⟨rfl, hb⟩
  obtain ⟨s2, hf2⟩ := fbox hb
  have HF2 := Lib.hid hf2
  have HB := Lib.hid (below_then HB.out HB.out.size (below_unalloc hb))
  clear hb hf2
  go_wp2_with fail
  refine (SA _).out.mono ?_
  rintro e w9 ⟨rfl, rfl⟩
  go_wp2_with fail
  refine (SB _).out.mono ?_
  rintro e w9 ⟨rfl, rfl⟩
  go_wp2_with fail
  refine (SX _).out.mono ?_
  rintro e w9 ⟨rfl, rfl⟩
  go_wp2_with fail
  refine (SA _).out.mono ?_
  rintro e w9 ⟨rfl, rfl⟩
  go_wp2_with fail
  refine (SB _).out.mono ?_
  rintro e w9 ⟨rfl, rfl⟩
  go_wp2_with fail
  refine (SX _).out.mono ?_
  rintro e w9 ⟨rfl, rfl⟩
  go_wp2_with fail
  refine (SA _).out.mono ?_
  rintro e w9 ⟨rfl, rfl⟩
  go_wp2_with fail
  refine (SB _).out.mono ?_
  rintro e w9 ⟨rfl, rfl⟩
  go_wp2_with fail
  refine (SA _).out.mono ?_
  rintro e w9 ⟨rfl, rfl⟩
  go_wp2_with fail
  refine (SB _).out.mono ?_
  rintro e w9 ⟨rfl, rfl⟩
  go_wp2_with fail
  refine (SA _).out.mono ?_
  rintro e w9 ⟨rfl, rfl⟩
  go_wp2_with fail
  refine (SB _).out.mono ?_
  rintro e w9 ⟨rfl, rfl⟩
  go_wp2_with fail
  refine (SA _).out.mono ?_
  rintro e w9 ⟨rfl, rfl⟩
  go_wp2_with fail
  refine (SB _).out.mono ?_
  rintro e w9 ⟨rfl, rfl⟩
  go_wp2_with fail
  have hC : Hid (Cx (w9.alloc (.cells #[.bool (a == b), .bool (a != b), .bool (decide (b ≤ a)), .bool (decide (a < b)), .bool (decide (wrap32 X < 0)), .bool (decide (0 ≤ wrap32 X)), .bool (sgn a - sgn b != sgn X), .bool (sgn a - sgn b == sgn X), .bool (decide (b < a)), .bool (decide (a ≤ b)), .bool (decide (sgn b ≤ sgn a)), .bool (decide (sgn a < sgn b)), .bool (decide (sgn b < sgn a)), .bool (decide (sgn a ≤ sgn b)), .bool true, .bool false] 4)) v1.heap.size w9.heap.size ⟨gn, gz, gc, gv⟩) := Lib.hid (by
    refine ⟨by rw [alloc_size]; omega, by rw [alloc_size]; omega, fb_keep s2 ((Below.refl _ _).alloc (Nat.le_refl _) _) HF2.out, fun k hk => ?_⟩
    refine (cell_of_row _ _ k _ _ _ (heap_alloc_new w9 _)).trans ?_
    have h := HWP.out k hk
    have e : ((wants a b X).map Value.bool)[k]? = some (.bool (passed k ⟨gn, gz, gc, gv⟩)) := by rw [List.getElem?_map, h]; rfl
    rw [← e]
    simp [wants])
  have HB := Lib.hid (HB.out.alloc HB.out.size (.cells #[.bool (a == b), .bool (a != b), .bool (decide (b ≤ a)), .bool (decide (a < b)), .bool (decide (wrap32 X < 0)), .bool (decide (0 ≤ wrap32 X)), .bool (sgn a - sgn b != sgn X), .bool (sgn a - sgn b == sgn X), .bool (decide (b < a)), .bool (decide (a ≤ b)), .bool (decide (sgn b ≤ sgn a)), .bool (decide (sgn a < sgn b)), .bool (decide (sgn b < sgn a)), .bool (decide (sgn a ≤ sgn b)), .bool true, .bool false] 4))
  generalize w9.alloc (.cells #[.bool (a == b), .bool (a != b), .bool (decide (b ≤ a)), .bool (decide (a < b)), .bool (decide (wrap32 X < 0)), .bool (decide (0 ≤ wrap32 X)), .bool (sgn a - sgn b != sgn X), .bool (sgn a - sgn b == sgn X), .bool (decide (b < a)), .bool (decide (a ≤ b)), .bool (decide (sgn b ≤ sgn a)), .bool (decide (sgn a < sgn b)), .bool (decide (sgn b < sgn a)), .bool (decide (sgn a ≤ sgn b)), .bool true, .bool false] 4) = v3 at *
  generalize w9.heap.size = Q at *
  generalize v1.heap.size = q at *
  clear SA SB SX HD HWP HL e1 s2 HF2
  go_loopw [13] (fun i wr => ∃ k : Nat, k ≤ 16 ∧ i = .int .i64 k ∧ Hid (Cx wr q Q ⟨gn, gz, gc, gv⟩) ∧ Hid (Below w.heap.size w wr)) (fun i _ => 16 - (intOf i).toNat)
  case atStart => exact ⟨0, by omega, rfl, hC, HB⟩
  case round =>
    obtain ⟨k, hk, rfl, hC2, HB2⟩ := hrel
    clear hC HB
    by_cases hk2 : k < 16
    · have q0 : (0 : Int) ≤ k := by omega
      have q1 : (k : Int) < 16 := by omega
      obtain ⟨d0, d1, d2, d3⟩ := hC2.out.fb
      have dk := hC2.out.wants k hk2
      have lq := hC2.out.lq
      have lQ := hC2.out.lQ
      simp only at d0 d1 d2 d3
      have HPs := fun w => HPs w k gn gz gc gv
      generalize passed (k : Int) ⟨gn, gz, gc, gv⟩ = pk at *
      go_upto_region 8 with fail
      go_cut [115] from 108 to 115 (fun x wx => x = .bool false ∧ Hid (Below wr.heap.size wr wx))
      case first =>
        go_region_held3 (fun w' => w'.cell? ⟨q, 0, none⟩ = some (.bool gn) ∧ w'.cell? ⟨q, 1, none⟩ = some (.bool gz) ∧ w'.cell? ⟨q, 2, none⟩ = some (.bool gc) ∧ w'.cell? ⟨q, 3, none⟩ = some (.bool gv) ∧ w'.cell? ⟨Q, k, none⟩ = some (.bool pk))
          (first | exact ⟨d0, d1, d2, d3, dk⟩ | exact box5 lq lQ hg.out ⟨d0, d1, d2, d3, dk⟩ | fail)
          (first
            | (go_simp; go_at_call 20; refine (HPs _).out.mono ?_; rintro e w4 ⟨rfl, hb4⟩; have hg : Hid (Below wr.heap.size wr w4) := (by first | exact Lib.hid (below_undrew hb4) | exact Lib.hid hb4 | fail); clear hb4; go_simp))
        go_wp2_with fail
        go_meet
        exact ⟨rfl, hg⟩
      case rest =>
        obtain ⟨rfl, hb⟩ := hcut
        have HB3 := Lib.hid (below_then HB2.out HB2.out.size hb.out)
        have hC3 := Lib.hid (hC2.out.keep hb.out)
        clear hb d0 d1 d2 d3 dk lq lQ HB2 hC2
        go_wp2_with fail
        go_roundw
        case rel => exact ⟨k + 1, by omega, by go_num, hC3, HB3⟩
        case measure => simp [intOf]; omega
    · go_wp2_with fail
      go_ret
      exact ⟨rfl, HB2.out⟩
end Go.Proofs.Yteakgeplefjncaa
