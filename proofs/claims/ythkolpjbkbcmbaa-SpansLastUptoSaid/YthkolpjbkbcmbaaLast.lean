/- The walk of SpansLast. -/
import Derived.Test.YthkolpjbkbcmbaaSaid
import Derived.Test.YthkolpjbkbcmbaaLive
import Derived.Test.YthkolpjbkbcmbaaKeys
import Derived.Test.YthkolpjbkbcmbaaLook

set_option linter.unusedVariables false
set_option linter.unusedSimpArgs false
namespace Go.Proofs.Ythkolpjbkbcmbaa
open Go.RowKit

set_option maxRecDepth 100000 in
set_option maxHeartbeats 2000000 in
theorem last_core (w : World) (A Ak : Option Addr) (n c nk ck : Nat) (l : List Opn) (kl : List Int) (hln : l.length = n) (hn : n ≤ 10000000) (hnk : nk ≤ 10000000) (hs : Script w A c l) (hks : KeysAt w Ak nk ck kl) :
    Calls Try.prog 3 #[.slice A n c, .slice Ak nk ck] w fun e w' => e = .returned (.bool true) ∧ Below w.heap.size w w' := by
  have HLaid := fun W (h : Script W A c l) => Lib.hid (laid_core W A n c l hln (by omega) h)
  have HLN := Lib.hid hln
  have hkl : kl.length = nk := hks.2.1
  have HKL := Lib.hid hkl
  clear hln hkl
  go_enter Try.func3, Try.ntmps3
  go_wp2_with fail
  refine (HLaid _ hs).out.mono ?_
  rintro e w1 ⟨rfl, hM, hB⟩
  go_wp2_with fail
  refine (live_calls _).mono ?_
  rintro e w2 ⟨rfl, hb⟩
  have hB2 := below_then hB hB.size hb
  have hM2 := hM.below hb
  have hs2 := hs.below hB2
  have hR2 : RowU (w2.alloc (.cells #[.int .u64 0, .int .u64 18446744073709551615] 27)) w2.heap.size (.slice (some ⟨w2.heap.size, 0, none⟩) 2 2) [0, 18446744073709551615] :=
    ⟨World.ownsRow_lit (size := 1) w2 #[.int .u64 0, .int .u64 18446744073709551615] 2 (Nat.le_refl _) (by unfold maxLen; omega) rfl, by intro x hx; simp only [List.mem_cons, List.not_mem_nil, or_false] at hx; unfold inU M.top; omega⟩
  have hk2 := (hks.below hB2).below ((Below.refl _ _).alloc (Nat.le_refl _) (.cells #[.int .u64 0, .int .u64 18446744073709551615] 27))
  have HR2 := Lib.hid hR2
  have HB2 := Lib.hid hB2
  clear hM hB hb HLaid hR2 hks hB2 hs
  go_wp2_with (at_builtin; (refine app_keys w2.heap.size rfl (.tmp 26) (.tmp 27) rfl (.slice (some ⟨w2.heap.size, 0, none⟩) 2 2) [0, 18446744073709551615] Ak nk ck kl rfl rfl hk2 HR2.out (by simp; omega) (by simp) ?_); intro v' w3 hR hG hat)
  have hB3 : Below w2.heap.size w2 w3 := ((Below.refl _ w2).alloc (Nat.le_refl _) _).grown hG (by simp) (fun k hk => by simp only [Value.ownBlock, Option.some.injEq] at hk; omega)
  have hlen : ([0, 18446744073709551615] ++ kl).length ≤ 2 + nk := by rw [List.length_append, HKL.out]; simp
  generalize hk0 : ([0, 18446744073709551615] ++ kl) = ks at *
  clear hk0 hG hat hk2 HR2 HKL
  go_wp2_with fail
  go_loopw [6, 7] (fun v i wr => ∃ (k : Nat) (ls : List Int), k ≤ n ∧ i = .int .i64 k ∧ RowU wr w2.heap.size v ls ∧ ls.length ≤ 2 + nk + 6 * k ∧ Below w2.heap.size w2 wr) (fun _ i _ => n - (intOf i).toNat)
  case atStart => exact ⟨0, ks, Nat.zero_le _, rfl, hR, by omega, hB3⟩
  case round =>
    obtain ⟨k, ls, hk, rfl, hRk, hlk, hBk⟩ := hrel
    clear hR hB3 hlen
    by_cases hlt : k < n
    · obtain ⟨o, ho⟩ : ∃ o, l[k]? = some o := ⟨_, List.getElem?_eq_getElem (by rw [HLN.out]; exact hlt)⟩
      obtain ⟨b, off, rfl, hbl, c0, c1, c2, c3⟩ := hs2.2.2.2 k o ho
      have hok := Lib.hid (hs2.2.2.1 o (List.mem_of_getElem? ho))
      have t0 := (hBk.cell (p := ⟨b, off + k * 4, none⟩) hbl).trans c0
      have t1 := (hBk.cell (p := ⟨b, off + k * 4 + 1, none⟩) hbl).trans c1
      have t2 := (hBk.cell (p := ⟨b, off + k * 4 + 2, none⟩) hbl).trans c2
      have t3 := (hBk.cell (p := ⟨b, off + k * 4 + 3, none⟩) hbl).trans c3
      obtain ⟨kd, olo, ohi, ov⟩ := o
      dsimp only at t0 t1 t2 t3
      have hin : ∀ x ∈ [IntKind.u64.wrap (olo - 1), olo, IntKind.u64.wrap (olo + 1), IntKind.u64.wrap (ohi - 1), ohi, IntKind.u64.wrap (ohi + 1)], inU x := by
        intro x hx
        have h := hok.out
        simp only [List.mem_cons, List.not_mem_nil, or_false] at hx
        rcases hx with rfl | rfl | rfl | rfl | rfl | rfl
        · exact inU_wrap _
        · exact ⟨h.1, h.2.1⟩
        · exact inU_wrap _
        · exact inU_wrap _
        · exact ⟨h.2.2.1, h.2.2.2.1⟩
        · exact inU_wrap _
      have hkeys := Lib.hid (KeysAt.lit (wr.alloc (.cells #[.int .i64 kd, .int .u64 olo, .int .u64 ohi, .int .i64 ov] 29)) [IntKind.u64.wrap (olo - 1), olo, IntKind.u64.wrap (olo + 1), IntKind.u64.wrap (ohi - 1), ohi, IntKind.u64.wrap (ohi + 1)]
        #[.int .u64 (IntKind.u64.wrap (olo - 1)), .int .u64 olo, .int .u64 (IntKind.u64.wrap (olo + 1)), .int .u64 (IntKind.u64.wrap (ohi - 1)), .int .u64 ohi, .int .u64 (IntKind.u64.wrap (ohi + 1))] rfl hin)
      have HR := Lib.hid hRk
      have hz := hBk.size
      clear c0 c1 c2 c3 hRk hs2 ho hin hok hM2
      go_wp2_with (at_builtin; (refine app_keys w2.heap.size rfl (.tmp 39) (.tmp 56) rfl u6 ls (some ⟨wr.heap.size + 1, 0, none⟩) 6 6 _ rfl rfl (by simpa using hkeys.out) ((HR.out.alloc _).alloc _) (by simp; omega) (by simp; omega) ?_); intro v' w' hR hG hat)
      have hB' : Below w2.heap.size w2 w' := ((hBk.alloc hz _).alloc (by simp; omega) _).grown hG (by simp; omega) (fun k hk => (World.ownsRow.lt HR.out.1 k hk).1)
      go_roundw
      case rel => exact ⟨k + 1, _, by omega, by go_num, hR, by simp; omega, hB'⟩
      case measure => simp [intOf]; omega
    · obtain rfl : k = n := by omega
      have hl2 : ls.length ≤ 100000000 := by omega
      obtain ⟨Al, cl, rfl, hread⟩ := hRk.read
      have hin := hRk.2
      have hM := hM2.below hBk
      have hss := hs2.below hBk
      have hBw := below_then HB2.out HB2.out.size hBk
      have hoks := hs2.2.2.1
      have hWp := play_wf hoks
      have hLp : (play l).length ≤ 500000000 := by have := play_length hoks; rw [HLN.out] at this; omega
      have HKC := fun x => Lib.hid (key_told hoks x)
      have HSaid := fun W (h : Script W A c l) x => Lib.hid (said_core W A k c l x HLN.out (by omega) h)
      have HGet := fun W (h : MapAt W 0 w.heap.size (play l)) x => Lib.hid (get_calls W 0 w.heap.size (play l) x h hWp (by omega))
      have HRun := fun W (h : MapAt W 0 w.heap.size (play l)) x => Lib.hid (run_calls W 0 w.heap.size (play l) x h hWp (by omega))
      have HNext := fun W (h : MapAt W 0 w.heap.size (play l)) x => Lib.hid (next_calls W 0 w.heap.size (play l) x h hWp (by omega))
      clear hM2 hs2 hBk hRk HB2 hlk hlt hk hWp hLp hoks
      generalize hN : ls.length = N at *
      have HN := Lib.hid hN
      clear hN
      go_wp2_with fail
      obtain ⟨wb, hwb⟩ : ∃ wb : World, wb = wr := ⟨_, rfl⟩
      subst hwb
      go_loopw [9] (fun i wr => ∃ k : Nat, k ≤ N ∧ i = .int .i64 k ∧ Below wb.heap.size wb wr) (fun i _ => N - (intOf i).toNat)
      case atStart => exact ⟨0, Nat.zero_le _, rfl, Below.refl _ _⟩
      case round =>
        obtain ⟨j, hj, rfl, hB⟩ := hrel
        by_cases hlt : j < N
        · obtain ⟨x, hx⟩ : ∃ x, ls[j]? = some x := ⟨_, List.getElem?_eq_getElem (by rw [HN.out]; exact hlt)⟩
          obtain ⟨g, rfl, _, hgl, c0⟩ := hread j x hx
          have hMr := hM.below hB
          have hsr := hss.below hB
          have t0 := (hB.cell (p := ⟨g, j, none⟩) hgl).trans c0
          obtain ⟨v, ok, r, t, tb, e1, e2, e3, e4, e5, e6, e7, hcase⟩ := (HKC x).out
          have C1 := fun W h => (HSaid W h x).out
          rw [e1, e2] at C1
          have C2 := fun W h => (HGet W h x).out
          rw [e3, e4, e5] at C2
          have C3 := fun W h => (HRun W h x).out
          rw [e3, e4] at C3
          have C4 := fun W h => (HNext W h x).out
          rw [e6, e7] at C4
          have D1 := fun W h => Lib.hid (C1 W h)
          have D2 := fun W h => Lib.hid (C2 W h)
          have D3 := fun W h => Lib.hid (C3 W h)
          have D4 := fun W h => Lib.hid (C4 W h)
          clear hM hss hread hx c0 HKC hin C1 C2 C3 C4 HSaid HGet HRun HNext e1 e2 e3 e4 e6 e7
          have hne : ∀ W, (binOp .neq 34 (.agg #[.int .u64 r.lo, .int .u64 r.hi, .int .i64 r.v]) (.agg #[.int .u64 r.lo, .int .u64 r.hi, .int .i64 r.v])).run Try.prog W = .ok (.bool false) W := fun W => neq34_same _ _ _ W
          subst e5
          rcases hcase with ⟨rfl, rfl, rfl, q1, q2⟩ | ⟨rfl, rfl⟩ | ⟨rfl, rfl, q1⟩
          all_goals
            go_wp2_with fail
            refine (D1 _ hsr).out.mono ?_
            rintro e w4 ⟨rfl, hb⟩
            have hB4 := below_then hB hB.size hb
            have hM4 := hMr.below hb
            have t4 := (hB4.cell (p := ⟨g, j, none⟩) hgl).trans ((hB.cell (p := ⟨g, j, none⟩) hgl).symm.trans t0)
            clear D1 hb hB hsr hMr t0
            go_wp2_with fail
            refine (D2 _ hM4).out.mono ?_
            rintro e w5 ⟨rfl, hb⟩
            have hB5 := below_then hB4 hB4.size hb
            have hM5 := hM4.below hb
            have t5 := (hB5.cell (p := ⟨g, j, none⟩) hgl).trans ((hB4.cell (p := ⟨g, j, none⟩) hgl).symm.trans t4)
            clear D2 hb hB4 hM4 t4
            go_wp2_with fail
            refine (D3 _ hM5).out.mono ?_
            rintro e w6 ⟨rfl, hb⟩
            have hB6 := below_then hB5 hB5.size hb
            have hM6 := hM5.below hb
            have t6 := (hB6.cell (p := ⟨g, j, none⟩) hgl).trans ((hB5.cell (p := ⟨g, j, none⟩) hgl).symm.trans t5)
            have hg6 : g < w6.heap.size := Nat.lt_of_lt_of_le hgl hB6.size
            clear D3 hb hB5 hM5 t5
            go_wp2_with fail
            refine (D4 _ (hM6.alloc _)).out.mono ?_
            rintro e w7 ⟨rfl, hb⟩
            have hB7 := below_then (hB6.alloc hB6.size _) (by have := hB6.size; simp; omega) hb
            have t7 := (hB7.cell (p := ⟨g, j, none⟩) hgl).trans ((hB6.cell (p := ⟨g, j, none⟩) hgl).symm.trans t6)
            obtain ⟨hz, hcc, hf⟩ := newbox hb
            have c0 := hcc 0 (.int .u64 _) rfl
            have c1 := hcc 1 (.int .u64 _) rfl
            have c2 := hcc 2 (.int .i64 _) rfl
            have hg7 : g < w7.heap.size := Nat.lt_of_lt_of_le hgl hB7.size
            clear hcc hf hb hB6 hM6 t6 D4
            go_wp2_with fail
            go_quiet (fail)
            go_wp2_with fail
            go_quiet (fail)
            go_wp2_with fail
            go_roundw
            case rel => exact ⟨j + 1, by omega, by go_num, below_drewN (hB7.alloc hB7.size _) _⟩
            case measure => simp [intOf]; omega
        · obtain rfl : j = N := by omega
          go_wp2_with fail
          go_ret
          exact ⟨rfl, below_then hBw hBw.size hB⟩
end Go.Proofs.Ythkolpjbkbcmbaa
