/- The walks of made and SpansPlays. -/
import Derived.Test.YthkolpjbkbcmbaaRefAsked
set_option linter.unusedVariables false
set_option linter.unusedSimpArgs false
namespace Go.Proofs.Ythkolpjbkbcmbaa
open Go.RowKit

def rplay (l : List Opn) : List M.Dn := l.foldl rstep []
theorem rplay_snoc (l : List Opn) (o : Opn) : rplay (l ++ [o]) = rstep (rplay l) o := by simp [rplay]
theorem rplay_length (l : List Opn) : (rplay l).length ≤ l.length := by
  refine snoc_ind (P := fun l => (rplay l).length ≤ l.length) (by simp [rplay]) (fun l o ih => ?_) l
  rw [rplay_snoc]
  have := rstep_length (rplay l) o
  simp
  omega

theorem Same.nil : Same [] [] := ⟨M.WF.nil, fun k u => by simp [M.has_nil, M.fv_nil]⟩

theorem ref_new (w : World) (B : Nat) (h : B ≤ w.heap.size) : RefAt (w.alloc (.cells #[.slice none 0 0] 49)) B w.heap.size [] :=
  ⟨h, by simp, none, 0, heap_alloc_new w _, World.ownsRow_nil _ _ _ _⟩

set_option maxRecDepth 100000 in
set_option maxHeartbeats 1000000 in
theorem made_core (w : World) (A : Option Addr) (n c : Nat) (l : List Opn) (hln : l.length = n) (hn : n ≤ 50000000) (hs : Script w A c l) :
    Calls Try.prog 19 #[.slice A n c] w fun e w' => ∃ pm pr, e = .returned (.tuple #[.pointer (some ⟨pm, 0, none⟩), .pointer (some ⟨pr, 0, none⟩)]) ∧ Two w.heap.size w pm pr (play l) (rplay l) w' := by
  have hok := hs.2.2.1
  go_enter Try.func19, Try.ntmps19
  go_wp2_with fail
  refine (new_calls _).mono ?_
  rintro e w1 ⟨rfl, hM, hb⟩
  have hz := hb.size
  have hT0 : Two w.heap.size w w.heap.size w1.heap.size [] [] (w1.alloc (.cells #[.slice none 0 0] 49)) :=
    ⟨hM.alloc _, ref_new w1 _ hz, Same.nil, hb.alloc hz _, by simp; omega, Nat.le_refl _⟩
  have HT0 := Lib.hid hT0
  clear hT0 hM hb
  go_wp2_with fail
  go_loopw [6] (fun i wr => ∃ k : Nat, k ≤ n ∧ i = .int .i64 k ∧ Hid (Two w.heap.size w w.heap.size w1.heap.size (play (l.take k)) (rplay (l.take k)) wr)) (fun i _ => n - (intOf i).toNat)
  case atStart => exact ⟨0, Nat.zero_le _, rfl, HT0.out⟩
  case round =>
    obtain ⟨k, hk, rfl, HT⟩ := hrel
    clear HT0
    by_cases hlt : k < n
    · obtain ⟨o, ho⟩ : ∃ o, l[k]? = some o := ⟨_, List.getElem?_eq_getElem (by omega)⟩
      obtain ⟨b, off, rfl, hbl, c0, c1, c2, c3⟩ := hs.2.2.2 k o ho
      have t0 := (HT.out.below.cell (p := ⟨b, off + k * 4, none⟩) hbl).trans c0
      have t1 := (HT.out.below.cell (p := ⟨b, off + k * 4 + 1, none⟩) hbl).trans c1
      have t2 := (HT.out.below.cell (p := ⟨b, off + k * 4 + 2, none⟩) hbl).trans c2
      have t3 := (HT.out.below.cell (p := ⟨b, off + k * 4 + 3, none⟩) hbl).trans c3
      clear c0 c1 c2 c3
      have hokk : ∀ x ∈ l.take k, x.ok := fun x hx => hok x (List.mem_of_mem_take hx)
      have hlk := List.length_take_le k l
      have hLk : (play (l.take k)).length ≤ 500000000 := by have := play_length hokk; omega
      have hDk : (rplay (l.take k)).length ≤ 100000000 := by have := rplay_length (l.take k); omega
      have hoo := hok o (List.mem_of_getElem? ho)
      have HP := Lib.hid (show play (l.take (k + 1)) = step (play (l.take k)) o ∧ rplay (l.take (k + 1)) = rstep (rplay (l.take k)) o by rw [M.take_snoc ho, play_snoc, rplay_snoc]; exact ⟨rfl, rfl⟩)
      have HD := Lib.hid (done_calls wr w w.heap.size w.heap.size w1.heap.size _ _ o HT.out hoo hLk (by omega))
      unfold agg29 at HD
      clear hok hokk hLk hoo ho hs hln hDk hlk
      go_wp2_with fail
      refine HD.out.mono ?_
      rintro e w' ⟨rfl, h1⟩
      have H1 := Lib.hid h1
      clear h1 HD HT t0 t1 t2 t3
      go_wp2_with fail
      go_roundw
      case rel => exact ⟨k + 1, by omega, by go_num, by rw [HP.out.1, HP.out.2]; exact H1.out⟩
      case measure => simp [intOf]; omega
    · obtain rfl : k = n := by omega
      have e : l.take k = l := List.take_of_length_le (by omega)
      rw [e] at HT
      clear hs hok e hln
      go_wp2_with fail
      go_ret2
      exact ⟨_, _, rfl, HT.out⟩

theorem Script.nil (w : World) : Script w none 0 [] := ⟨by simp, by omega, by simp, by simp⟩

set_option maxRecDepth 100000 in
set_option maxHeartbeats 1000000 in
theorem plays_core (w : World) (A : Option Addr) (n c : Nat) (l : List Opn) (hln : l.length = n) (hn : n ≤ 50000000) (hs : Script w A c l) :
    Calls Try.prog 4 #[.slice A n c] w fun e w' => e = .returned (.bool true) ∧ Below w.heap.size w w' := by
  have hok := hs.2.2.1
  have HM := Lib.hid (made_core w none 0 0 [] rfl (by omega) (Script.nil w))
  go_enter Try.func4, Try.ntmps4
  go_wp2_with fail
  refine HM.out.mono ?_
  rintro e w1 ⟨pm, pr, rfl, hT⟩
  have HT1 := Lib.hid hT
  clear hT HM
  go_wp2_with fail
  refine (live_calls _).mono ?_
  rintro e w2 ⟨rfl, hb⟩
  have HT2 := Lib.hid (HT1.out.then hb)
  clear hb HT1
  go_wp2_with fail
  go_loopw [5] (fun i wr => ∃ k : Nat, k ≤ n ∧ i = .int .i64 k ∧ Hid (Two w.heap.size w pm pr (play (l.take k)) (rplay (l.take k)) wr)) (fun i _ => n - (intOf i).toNat)
  case atStart => exact ⟨0, Nat.zero_le _, rfl, HT2.out⟩
  case round =>
    obtain ⟨k, hk, rfl, HT⟩ := hrel
    clear HT2
    have hokk : ∀ x ∈ l.take k, x.ok := fun x hx => hok x (List.mem_of_mem_take hx)
    have hlk := List.length_take_le k l
    have hLk : (play (l.take k)).length ≤ 500000000 := by have := play_length hokk; omega
    have hDk : (rplay (l.take k)).length ≤ 100000000 := by have := rplay_length (l.take k); omega
    by_cases hlt : k < n
    · obtain ⟨o, ho⟩ : ∃ o, l[k]? = some o := ⟨_, List.getElem?_eq_getElem (by omega)⟩
      obtain ⟨b, off, rfl, hbl, c0, c1, c2, c3⟩ := hs.2.2.2 k o ho
      have t0 := (HT.out.below.cell (p := ⟨b, off + k * 4, none⟩) hbl).trans c0
      have t1 := (HT.out.below.cell (p := ⟨b, off + k * 4 + 1, none⟩) hbl).trans c1
      have t2 := (HT.out.below.cell (p := ⟨b, off + k * 4 + 2, none⟩) hbl).trans c2
      have t3 := (HT.out.below.cell (p := ⟨b, off + k * 4 + 3, none⟩) hbl).trans c3
      clear c0 c1 c2 c3
      have hoo := hok o (List.mem_of_getElem? ho)
      have HP := Lib.hid (show play (l.take (k + 1)) = step (play (l.take k)) o ∧ rplay (l.take (k + 1)) = rstep (rplay (l.take k)) o by rw [M.take_snoc ho, play_snoc, rplay_snoc]; exact ⟨rfl, rfl⟩)
      have HD := Lib.hid (asked_calls wr w w.heap.size pm pr _ _ o HT.out hoo hLk hDk)
      unfold agg29 at HD
      clear hok hokk hLk hoo ho hs hln hDk hlk
      go_wp2_with fail
      refine HD.out.mono ?_
      rintro e w' ⟨rfl, h1⟩
      have H1 := Lib.hid h1
      clear h1 HD HT t0 t1 t2 t3
      go_wp2_with fail
      go_roundw
      case rel => exact ⟨k + 1, by omega, by go_num, by rw [HP.out.1, HP.out.2]; exact H1.out⟩
      case measure => simp [intOf]; omega
    · obtain rfl : k = n := by omega
      generalize play (l.take k) = L at *
      generalize rplay (l.take k) = D at *
      have HA := fun W (h : Two w.heap.size w pm pr L D W) => Lib.hid (asked_spans W w w.heap.size pm pr L D 6 0 0 0 h rfl hLk hDk)
      have HB := fun W (h : Two w.heap.size w pm pr L D W) => Lib.hid (asked_run W w w.heap.size pm pr L D 4 0 0 0 h rfl hLk hDk)
      have HC := fun W (h : Two w.heap.size w pm pr L D W) => Lib.hid (asked_next W w w.heap.size pm pr L D 5 18446744073709551615 0 0 h rfl hLk hDk)
      unfold Asked at HA HB HC
      simp only [show step L ⟨6, 0, 0, 0⟩ = L from rfl, show rstep D ⟨6, 0, 0, 0⟩ = D from rfl] at HA
      simp only [show step L ⟨4, 0, 0, 0⟩ = L from rfl, show rstep D ⟨4, 0, 0, 0⟩ = D from rfl] at HB
      simp only [show step L ⟨5, 18446744073709551615, 0, 0⟩ = L from rfl, show rstep D ⟨5, 18446744073709551615, 0, 0⟩ = D from rfl] at HC
      clear hs hok hln hokk
      go_wp2_with fail
      refine (HA _ HT.out).out.mono ?_
      rintro e w3 ⟨rfl, h⟩
      have HT3 := Lib.hid h
      clear h HT
      go_wp2_with fail
      refine (HB _ HT3.out).out.mono ?_
      rintro e w4 ⟨rfl, h⟩
      have HT4 := Lib.hid h
      clear h HT3
      go_wp2_with fail
      refine (HC _ HT4.out).out.mono ?_
      rintro e w5 ⟨rfl, h⟩
      have HT5 := Lib.hid h
      clear h HT4
      go_wp2_with fail
      go_ret
      exact ⟨rfl, HT5.out.below⟩

end Go.Proofs.Ythkolpjbkbcmbaa
