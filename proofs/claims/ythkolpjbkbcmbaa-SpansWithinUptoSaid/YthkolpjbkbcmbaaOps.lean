/- Scripts: what a list of calls is in memory, and the walks of laid and said. -/
import Derived.Test.YthkolpjbkbcmbaaSet
import Derived.StillTailTactics
import Derived.WalkSpells
set_option linter.unusedVariables false
set_option linter.unusedSimpArgs false
namespace Go.Proofs.Ythkolpjbkbcmbaa
open Go.RowKit

structure Opn where
  kind : Int
  lo : Int
  hi : Int
  val : Int

def Opn.ok (o : Opn) : Prop := 0 ≤ o.lo ∧ o.lo ≤ M.top ∧ 0 ≤ o.hi ∧ o.hi ≤ M.top ∧ -9223372036854775808 ≤ o.kind ∧ o.kind ≤ 9223372036854775807 ∧ -9223372036854775808 ≤ o.val ∧ o.val ≤ 9223372036854775807

/-- A script that came in: each of its cells. -/
def Script (w : World) (A : Option Addr) (c : Nat) (l : List Opn) : Prop :=
  l.length ≤ c ∧ c ≤ 9223372036854775807 ∧ (∀ o ∈ l, o.ok) ∧ ∀ (i : Nat) (o : Opn), l[i]? = some o → ∃ b off, A = some ⟨b, off, none⟩ ∧ b < w.heap.size ∧
    w.cell? ⟨b, off + i * 4, none⟩ = some (.int .i64 o.kind) ∧ w.cell? ⟨b, off + i * 4 + 1, none⟩ = some (.int .u64 o.lo) ∧ w.cell? ⟨b, off + i * 4 + 2, none⟩ = some (.int .u64 o.hi) ∧ w.cell? ⟨b, off + i * 4 + 3, none⟩ = some (.int .i64 o.val)

theorem Script.below {w w' : World} {A : Option Addr} {c : Nat} {l : List Opn} (h : Script w A c l) (hb : Below w.heap.size w w') : Script w' A c l := by
  refine ⟨h.1, h.2.1, h.2.2.1, fun i o ho => ?_⟩
  obtain ⟨b, off, e, hlt, c0, c1, c2, c3⟩ := h.2.2.2 i o ho
  exact ⟨b, off, e, Nat.lt_of_lt_of_le hlt hb.size, (hb.cell (p := ⟨b, _, none⟩) hlt).trans c0, (hb.cell (p := ⟨b, _, none⟩) hlt).trans c1, (hb.cell (p := ⟨b, _, none⟩) hlt).trans c2, (hb.cell (p := ⟨b, _, none⟩) hlt).trans c3⟩

/-- What a map stands as behind one call, and behind a script. -/
def step (L : List S) (o : Opn) : List S := if o.kind = 1 then put L o.lo o.hi (some o.val) else if o.kind = 2 then put L o.lo o.hi none else L
def play (l : List Opn) : List S := l.foldl step []

theorem step_wf {L : List S} {o : Opn} (hW : M.WF L) (ho : o.ok) : M.WF (step L o) := by
  unfold step
  split
  · exact put_wf _ hW ho.1 ho.2.2.2.1
  · split
    · exact put_wf _ hW ho.1 ho.2.2.2.1
    · exact hW
theorem step_length {L : List S} {o : Opn} (hW : M.WF L) (ho : o.ok) : (step L o).length ≤ L.length + 2 := by
  unfold step
  split
  · exact put_length _ hW ho.1 ho.2.2.2.1
  · split
    · exact put_length _ hW ho.1 ho.2.2.2.1
    · omega
theorem foldl_step {l : List Opn} : ∀ {L : List S}, M.WF L → (∀ o ∈ l, o.ok) → M.WF (l.foldl step L) ∧ (l.foldl step L).length ≤ L.length + 2 * l.length := by
  induction l with
  | nil => intro L h _; exact ⟨h, by simp⟩
  | cons o l ih =>
    intro L h ho
    have h1 := ih (step_wf h (ho o (List.mem_cons_self ..))) (fun x hx => ho x (List.mem_cons_of_mem _ hx))
    have h2 := step_length h (ho o (List.mem_cons_self ..))
    exact ⟨h1.1, by have := h1.2; simp only [List.foldl_cons, List.length_cons]; omega⟩
theorem play_wf {l : List Opn} (ho : ∀ o ∈ l, o.ok) : M.WF (play l) := (foldl_step M.WF.nil ho).1
theorem play_length {l : List Opn} (ho : ∀ o ∈ l, o.ok) : (play l).length ≤ 2 * l.length := by have := (foldl_step M.WF.nil ho).2; unfold play; simpa using this
theorem play_snoc (l : List Opn) (o : Opn) : play (l ++ [o]) = step (play l) o := by simp [play]

set_option maxRecDepth 100000 in
set_option maxHeartbeats 1000000 in
theorem laid_core (w : World) (A : Option Addr) (n c : Nat) (l : List Opn) (hln : l.length = n) (hn : n ≤ 100000000) (hs : Script w A c l) :
    Calls Try.prog 13 #[.slice A n c] w fun e w' => e = .returned (.pointer (some ⟨w.heap.size, 0, none⟩)) ∧ MapAt w' 0 w.heap.size (play l) ∧ Below w.heap.size w w' := by
  have hok := hs.2.2.1
  go_enter Try.func13, Try.ntmps13
  go_wp2_with fail
  refine (new_calls _).mono ?_
  rintro e w1 ⟨rfl, hM, hb⟩
  go_wp2_with fail
  go_loopw [4] (fun i wr => ∃ k : Nat, k ≤ n ∧ i = .int .i64 k ∧ MapAt wr 0 w.heap.size (play (l.take k)) ∧ Below w.heap.size w wr) (fun i _ => n - (intOf i).toNat)
  case atStart => exact ⟨0, Nat.zero_le _, rfl, hM, hb⟩
  case round =>
    obtain ⟨k, hk, rfl, hMk, hB⟩ := hrel
    clear hM hb
    by_cases hlt : k < n
    · obtain ⟨o, ho⟩ : ∃ o, l[k]? = some o := ⟨_, List.getElem?_eq_getElem (by omega)⟩
      obtain ⟨b, off, rfl, hbl, c0, c1, c2, c3⟩ := hs.2.2.2 k o ho
      have t0 := (hB.cell (p := ⟨b, off + k * 4, none⟩) hbl).trans c0
      have t1 := (hB.cell (p := ⟨b, off + k * 4 + 1, none⟩) hbl).trans c1
      have t2 := (hB.cell (p := ⟨b, off + k * 4 + 2, none⟩) hbl).trans c2
      have t3 := (hB.cell (p := ⟨b, off + k * 4 + 3, none⟩) hbl).trans c3
      clear c0 c1 c2 c3
      have hokk : ∀ x ∈ l.take k, x.ok := fun x hx => hok x (List.mem_of_mem_take hx)
      have hWk := play_wf hokk
      have hLk : (play (l.take k)).length ≤ 500000000 := by have := play_length hokk; have := List.length_take_le k l; omega
      have hoo := hok o (List.mem_of_getElem? ho)
      have HP := Lib.hid (show play (l.take (k + 1)) = step (play (l.take k)) o by rw [M.take_snoc ho, play_snoc])
      have HSet := fun W (hM : MapAt W 0 w.heap.size (play (l.take k))) => Lib.hid (set_calls W w.heap.size (play (l.take k)) o.lo o.hi o.val hM hLk hWk hoo.1 hoo.2.2.2.1)
      have HClr := fun W (hM : MapAt W 0 w.heap.size (play (l.take k))) => Lib.hid (clear_calls W w.heap.size (play (l.take k)) o.lo o.hi hM hLk hWk hoo.1 hoo.2.2.2.1)
      have hBz := hB.size
      clear hok hokk hWk hLk hoo ho hs hln
      by_cases k1 : o.kind = 1
      · have q1 : (o.kind == 1) = true := by simpa using k1
        have EK := Lib.hid (show step (play (l.take k)) o = put (play (l.take k)) o.lo o.hi (some o.val) by unfold step; rw [if_pos k1])
        clear k1
        go_wp2_with fail
        go_still_tail 16, (by kernel_rfl)
        change wpList _ _ _ _ _ wr.drew
        go_wp2_with fail
        refine (HSet wr.drew hMk).out.mono ?_
        rintro e w' ⟨rfl, h1, h2⟩
        have hB' : Below w.heap.size w w' := hB.drew.grown h2 hBz (fun k hk => by injection hk with hk; omega)
        have q2 : (o.kind == 2) = false := by have := of_decide_eq_true q1; simp; omega
        have t0' := (hB'.cell (p := ⟨b, off + k * 4, none⟩) hbl).trans ((hB.cell (p := ⟨b, off + k * 4, none⟩) hbl).symm.trans t0)
        clear HSet HClr h2 t0 t1 t2 t3 hBz hB hMk
        go_wp2_with fail
        go_roundw
        case rel => exact ⟨k + 1, by omega, by go_num, by rw [HP.out, EK.out]; exact h1, hB'⟩
        case measure => simp [intOf]; omega
      · have q1 : (o.kind == 1) = false := by simpa using k1
        by_cases k2 : o.kind = 2
        · have q2 : (o.kind == 2) = true := by simpa using k2
          have EK := Lib.hid (show step (play (l.take k)) o = put (play (l.take k)) o.lo o.hi none by unfold step; rw [if_neg k1, if_pos k2])
          clear k1 k2
          go_wp2_with fail
          go_still_tail 11, (by kernel_rfl)
          change wpList _ _ _ _ _ wr.drew
          go_wp2_with fail
          refine (HClr wr.drew hMk).out.mono ?_
          rintro e w' ⟨rfl, h1, h2⟩
          have hB' : Below w.heap.size w w' := hB.drew.grown h2 hBz (fun k hk => by injection hk with hk; omega)
          clear HSet HClr h2 t0 t1 t2 t3 hBz hB hMk
          go_wp2_with fail
          go_roundw
          case rel => exact ⟨k + 1, by omega, by go_num, by rw [HP.out, EK.out]; exact h1, hB'⟩
          case measure => simp [intOf]; omega
        · have q2 : (o.kind == 2) = false := by simpa using k2
          have EK := Lib.hid (show step (play (l.take k)) o = play (l.take k) by unfold step; rw [if_neg k1, if_neg k2])
          clear k1 k2
          go_wp2_with fail
          go_roundw
          case rel => exact ⟨k + 1, by omega, by go_num, by rw [HP.out, EK.out]; exact hMk, hB⟩
          case measure => simp [intOf]; omega
    · obtain rfl : k = n := by omega
      have e : l.take k = l := List.take_of_length_le (by omega)
      rw [e] at hMk
      clear hs hok e hln
      go_wp2_with fail
      go_ret
      exact ⟨rfl, hMk, hB⟩

end Go.Proofs.Ythkolpjbkbcmbaa
