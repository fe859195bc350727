/- The walk of SpansForm. -/
import Derived.Test.YthkolpjbkbcmbaaList
import Derived.Test.YthkolpjbkbcmbaaSaid
import Derived.Test.YthkolpjbkbcmbaaLive
set_option linter.unusedVariables false
set_option linter.unusedSimpArgs false
namespace Go.Proofs.Ythkolpjbkbcmbaa
open Go.RowKit

/-- A Set, or else a Clear. -/
def stepF (L : List S) (o : Opn) : List S := put L o.lo o.hi (if o.kind = 1 then some o.val else none)
def playF (l : List Opn) : List S := l.foldl stepF []
theorem playF_snoc (l : List Opn) (o : Opn) : playF (l ++ [o]) = stepF (playF l) o := by simp [playF]
theorem playF_wf {l : List Opn} (ho : ∀ o ∈ l, o.ok) : M.WF (playF l) ∧ (playF l).length ≤ 2 * l.length := by
  revert ho
  refine snoc_ind (P := fun l => (∀ o ∈ l, o.ok) → M.WF (playF l) ∧ (playF l).length ≤ 2 * l.length) ?_ ?_ l
  · intro _; exact ⟨M.WF.nil, by simp [playF]⟩
  · intro l o ih ho
    have h := ih (fun x hx => ho x (by simp [hx]))
    have hoo := ho o (by simp)
    rw [playF_snoc]
    refine ⟨put_wf _ h.1 hoo.1 hoo.2.2.2.1, ?_⟩
    have := put_length (L := playF l) (lo := o.lo) (hi := o.hi) (if o.kind = 1 then some o.val else none) h.1 hoo.1 hoo.2.2.2.1
    unfold stepF
    simp only [List.length_append, List.length_singleton]
    omega

set_option maxRecDepth 100000 in
set_option maxHeartbeats 2000000 in
theorem form_core (w : World) (A : Option Addr) (n c : Nat) (l : List Opn) (hln : l.length = n) (hn : n ≤ 10000000) (hs : Script w A c l) :
    Calls Try.prog 6 #[.slice A n c] w fun e w' => e = .returned (.bool true) ∧ Below w.heap.size w w' := by
  have hok := hs.2.2.1
  have HLN := Lib.hid hln
  clear hln
  go_enter Try.func6, Try.ntmps6
  go_wp2_with fail
  refine (new_calls _).mono ?_
  rintro e w1 ⟨rfl, hM, hB⟩
  go_wp2_with fail
  refine (live_calls _).mono ?_
  rintro e w2 ⟨rfl, hb⟩
  have hB2 := below_then hB hB.size hb
  have hM2 := hM.below hb
  clear hM hB hb
  go_wp2_with fail
  go_loopw [4, 5] (fun q i wr => ∃ k : Nat, k ≤ n ∧ i = .int .i64 k ∧ q = .int .i64 ((playF (l.take k)).length : Nat) ∧ MapAt wr 0 w.heap.size (playF (l.take k)) ∧ Below w.heap.size w wr) (fun _ i _ => n - (intOf i).toNat)
  case atStart => exact ⟨0, Nat.zero_le _, rfl, rfl, hM2, hB2⟩
  case round =>
    obtain ⟨k, hk, rfl, rfl, hMk, hB⟩ := hrel
    clear hM2 hB2
    by_cases hlt : k < n
    · obtain ⟨o, ho⟩ : ∃ o, l[k]? = some o := ⟨_, List.getElem?_eq_getElem (by rw [HLN.out]; exact hlt)⟩
      obtain ⟨b, off, rfl, hbl, c0, c1, c2, c3⟩ := hs.2.2.2 k o ho
      have t0 := (hB.cell (p := ⟨b, off + k * 4, none⟩) hbl).trans c0
      have t1 := (hB.cell (p := ⟨b, off + k * 4 + 1, none⟩) hbl).trans c1
      have t2 := (hB.cell (p := ⟨b, off + k * 4 + 2, none⟩) hbl).trans c2
      have t3 := (hB.cell (p := ⟨b, off + k * 4 + 3, none⟩) hbl).trans c3
      clear c0 c1 c2 c3
      have hokk : ∀ x ∈ l.take k, x.ok := fun x hx => hok x (List.mem_of_mem_take hx)
      obtain ⟨hWk, hLk⟩ := playF_wf hokk
      have hLk2 : (playF (l.take k)).length ≤ 20000000 := by have := List.length_take_le k l; omega
      have hoo := hok o (List.mem_of_getElem? ho)
      have HP := Lib.hid (show playF (l.take (k + 1)) = stepF (playF (l.take k)) o by rw [M.take_snoc ho, playF_snoc])
      have hBz := hB.size
      have hlt2 := hMk.lt
      have HOO := Lib.hid hoo
      have HWk := Lib.hid hWk
      clear hok hokk hWk hLk hoo ho hs HLN
      generalize playF (l.take k) = L at *
      obtain ⟨kd, olo, ohi, ov⟩ := o
      dsimp only at t0 t1 t2 t3
      have hMb := hMk.alloc (.cells #[.int .i64 kd, .int .u64 olo, .int .u64 ohi, .int .i64 ov] 29)
      -- the call, whichever it is
      have HL : ∃ L2 : List S, L2 = stepF L ⟨kd, olo, ohi, ov⟩ := ⟨_, rfl⟩
      obtain ⟨L2, hL2⟩ := HL
      have hW2 : M.WF L2 := by rw [hL2]; exact put_wf _ HWk.out HOO.out.1 HOO.out.2.2.2.1
      have hN2 : L2.length ≤ L.length + 2 := by rw [hL2]; exact put_length _ HWk.out HOO.out.1 HOO.out.2.2.2.1
      have HL2 := Lib.hid hL2
      clear hL2
      have HSet := fun W (hM : MapAt W 0 w.heap.size L) => Lib.hid (set_calls W w.heap.size L olo ohi ov hM (by omega) HWk.out HOO.out.1 HOO.out.2.2.2.1)
      have HClr := fun W (hM : MapAt W 0 w.heap.size L) => Lib.hid (clear_calls W w.heap.size L olo ohi hM (by omega) HWk.out HOO.out.1 HOO.out.2.2.2.1)
      have HSp := fun W (hM : MapAt W 0 w.heap.size L2) => Lib.hid (spans_calls W w.heap.size L2 hM (by omega))
      have HLen := fun W (hM : MapAt W 0 w.heap.size L2) => Lib.hid (len_calls W 0 w.heap.size L2 hM)
      have HFo := fun W bb A c (hR : RowAt W bb (.slice A L2.length c) L2) => Lib.hid (formed_core W bb L2.length c A L2 hW2 hR rfl (by omega))
      have hB0 := hB.alloc hBz (.cells #[.int .i64 kd, .int .u64 olo, .int .u64 ohi, .int .i64 ov] 29)
      by_cases k1 : kd = 1
      · have q1 : (kd == 1) = true := by simpa using k1
        have EK := Lib.hid (show put L olo ohi (some ov) = L2 by rw [HL2.out]; unfold stepF; rw [if_pos k1])
        clear k1
        go_wp2_with fail
        refine (HSet _ hMb).out.mono ?_
        rintro e w3 ⟨rfl, h1, h2⟩
        rw [EK.out] at h1
        have hB3 : Below w.heap.size w w3 := hB0.grown h2 (by simp; omega) (fun k hk => by injection hk with hk; omega)
        have hx3 : ∀ i u, (#[Value.int .i64 kd, .int .u64 olo, .int .u64 ohi, .int .i64 ov] : Array Value)[i]? = some u → w3.cell? ⟨wr.heap.size, i, none⟩ = some u := by
          intro i u hu
          have hb := (h2.block wr.heap.size (by simp) (by simp; omega)).trans (heap_alloc_new wr _)
          exact (cell_of_row w3 _ i _ 29 _ hb).trans hu
        have x1 := hx3 1 (.int .u64 olo) rfl
        have x2 := hx3 2 (.int .u64 ohi) rfl
        have hz3 : wr.heap.size < w3.heap.size := by have := h2.size; simp at this; omega
        clear hx3 h2 HSet HClr hMb hMk hB hB0 t0 t1 t2 t3
        go_wp2_with fail
        refine (HSp _ h1).out.mono ?_
        rintro e w4 ⟨rfl, hR4, hb⟩
        have hB4 := below_then hB3 hB3.size hb
        have hM4 := h1.below hb
        have y1 := (hb.cell (p := ⟨wr.heap.size, 1, none⟩) hz3).trans x1
        have y2 := (hb.cell (p := ⟨wr.heap.size, 2, none⟩) hz3).trans x2
        clear hb HSp h1 hB3 x1 x2
        go_wp2_with fail
        have HF := fun q => HFo (w4.drewN q) _ _ _ (hR4.drewN q)
        have HL4 := fun q => HLen (w4.drewN q) (hM4.drewN q)
        have p0 : ((L2.length : Int) == (L2.length : Int)) = true := by simp
        have p1 : ¬ (L.length : Int) + 2 < (L2.length : Int) := by omega
        have p2 : IntKind.i64.wrap ((L.length : Int) + 2) = (L.length : Int) + 2 := IntWalk.i64_in _ (by omega)
        have p3 : decide ((L.length : Int) + 2 < (L2.length : Int)) = false := by simp; omega
        have p4 : ((L2.length : Int) != (L2.length : Int)) = false := by simp
        have hcase : (eno olo ohi = 20 ∧ decide (ohi < olo) = true ∧ ((20 : Int) == 20) = true) ∨ (eno olo ohi = 0 ∧ decide (ohi < olo) = false ∧ ((0 : Int) == 20) = false) := by
          unfold eno
          by_cases h : ohi < olo
          · exact .inl ⟨if_pos h, by simpa using h, rfl⟩
          · exact .inr ⟨if_neg h, by simpa using h, rfl⟩
        rcases hcase with ⟨he, q5, q6⟩ | ⟨he, q5, q6⟩
        all_goals
          rw [he]
          clear he
          go_quiet ((first | (go_at_call 22; exact Calls.quiet_of_same (no_calls _ _)) | (go_at_call 37; exact Calls.quiet_of (HF _).out) | (go_at_call 38; exact Calls.quiet_of (HL4 _).out)))
          go_wp2_with fail
          go_roundw
          case rel => exact ⟨k + 1, by omega, by go_num, by rw [HP.out, ← HL2.out], by rw [HP.out, ← HL2.out]; exact hM4, below_drewN hB4 _⟩
          case measure => simp [intOf]; omega
      · have q1 : (kd == 1) = false := by simpa using k1
        have EK := Lib.hid (show put L olo ohi none = L2 by rw [HL2.out]; unfold stepF; rw [if_neg k1])
        clear k1
        go_wp2_with fail
        refine (HClr _ hMb).out.mono ?_
        rintro e w3 ⟨rfl, h1, h2⟩
        rw [EK.out] at h1
        have hB3 : Below w.heap.size w w3 := hB0.grown h2 (by simp; omega) (fun k hk => by injection hk with hk; omega)
        have hx3 : ∀ i u, (#[Value.int .i64 kd, .int .u64 olo, .int .u64 ohi, .int .i64 ov] : Array Value)[i]? = some u → w3.cell? ⟨wr.heap.size, i, none⟩ = some u := by
          intro i u hu
          have hb := (h2.block wr.heap.size (by simp) (by simp; omega)).trans (heap_alloc_new wr _)
          exact (cell_of_row w3 _ i _ 29 _ hb).trans hu
        have x1 := hx3 1 (.int .u64 olo) rfl
        have x2 := hx3 2 (.int .u64 ohi) rfl
        have hz3 : wr.heap.size < w3.heap.size := by have := h2.size; simp at this; omega
        clear hx3 h2 HSet HClr hMb hMk hB hB0 t0 t1 t2 t3
        go_wp2_with fail
        refine (HSp _ h1).out.mono ?_
        rintro e w4 ⟨rfl, hR4, hb⟩
        have hB4 := below_then hB3 hB3.size hb
        have hM4 := h1.below hb
        have y1 := (hb.cell (p := ⟨wr.heap.size, 1, none⟩) hz3).trans x1
        have y2 := (hb.cell (p := ⟨wr.heap.size, 2, none⟩) hz3).trans x2
        clear hb HSp h1 hB3 x1 x2
        go_wp2_with fail
        have HF := fun q => HFo (w4.drewN q) _ _ _ (hR4.drewN q)
        have HL4 := fun q => HLen (w4.drewN q) (hM4.drewN q)
        have p0 : ((L2.length : Int) == (L2.length : Int)) = true := by simp
        have p1 : ¬ (L.length : Int) + 2 < (L2.length : Int) := by omega
        have p2 : IntKind.i64.wrap ((L.length : Int) + 2) = (L.length : Int) + 2 := IntWalk.i64_in _ (by omega)
        have p3 : decide ((L.length : Int) + 2 < (L2.length : Int)) = false := by simp; omega
        have p4 : ((L2.length : Int) != (L2.length : Int)) = false := by simp
        have hcase : (eno olo ohi = 20 ∧ decide (ohi < olo) = true ∧ ((20 : Int) == 20) = true) ∨ (eno olo ohi = 0 ∧ decide (ohi < olo) = false ∧ ((0 : Int) == 20) = false) := by
          unfold eno
          by_cases h : ohi < olo
          · exact .inl ⟨if_pos h, by simpa using h, rfl⟩
          · exact .inr ⟨if_neg h, by simpa using h, rfl⟩
        rcases hcase with ⟨he, q5, q6⟩ | ⟨he, q5, q6⟩
        all_goals
          rw [he]
          clear he
          go_quiet ((first | (go_at_call 22; exact Calls.quiet_of_same (no_calls _ _)) | (go_at_call 37; exact Calls.quiet_of (HF _).out) | (go_at_call 38; exact Calls.quiet_of (HL4 _).out)))
          go_wp2_with fail
          go_roundw
          case rel => exact ⟨k + 1, by omega, by go_num, by rw [HP.out, ← HL2.out], by rw [HP.out, ← HL2.out]; exact hM4, below_drewN hB4 _⟩
          case measure => simp [intOf]; omega
    · obtain rfl : k = n := by omega
      go_wp2_with fail
      go_ret
      exact ⟨rfl, hB⟩
end Go.Proofs.Ythkolpjbkbcmbaa
