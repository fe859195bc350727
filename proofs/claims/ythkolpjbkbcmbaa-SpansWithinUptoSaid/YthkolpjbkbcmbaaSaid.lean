/- The value of a key by the last call over it; the walk of said. -/
import Derived.Test.YthkolpjbkbcmbaaOps
set_option linter.unusedVariables false
set_option linter.unusedSimpArgs false
namespace Go.Proofs.Ythkolpjbkbcmbaa
open Go.RowKit

/-- Does a call speak of the key k? -/
def covers (o : Opn) (k : Int) : Prop := (o.kind = 1 ∨ o.kind = 2) ∧ o.lo ≤ k ∧ k ≤ o.hi
instance (o : Opn) (k : Int) : Decidable (covers o k) := by unfold covers; infer_instance
/-- The value of a key, by the last call in whose range it lies. -/
def told (o : Opn) : Option Int := if o.kind = 1 then some o.val else none
def look (l : List Opn) (k : Int) : Option Int := l.foldl (fun acc o => if covers o k then told o else acc) none
theorem look_snoc (l : List Opn) (o : Opn) (k : Int) : look (l ++ [o]) k = if covers o k then told o else look l k := by simp [look]

theorem step_has {L : List S} {o : Opn} (hW : M.WF L) (ho : o.ok) (k v : Int) : M.Has (step L o) k v ↔ if covers o k then told o = some v else M.Has L k v := by
  unfold step covers told
  by_cases h1 : o.kind = 1
  · rw [if_pos h1, put_has _ hW ho.1 ho.2.2.2.1]
    simp [h1]
  · rw [if_neg h1]
    by_cases h2 : o.kind = 2
    · rw [if_pos h2, put_has _ hW ho.1 ho.2.2.2.1]
      simp [h2]
    · rw [if_neg h2]
      simp [h1, h2]

theorem snoc_ind {α : Type} {P : List α → Prop} (h0 : P []) (h1 : ∀ l x, P l → P (l ++ [x])) (l : List α) : P l := by
  rw [← List.reverse_reverse l]
  generalize l.reverse = r
  induction r with
  | nil => simpa using h0
  | cons x r ih => simpa using h1 _ x ih

theorem play_has {l : List Opn} (ho : ∀ o ∈ l, o.ok) (k v : Int) : M.Has (play l) k v ↔ look l k = some v := by
  revert ho
  refine snoc_ind (P := fun l => (∀ o ∈ l, o.ok) → (M.Has (play l) k v ↔ look l k = some v)) ?_ ?_ l
  · intro _; simp [play, look, M.has_nil]
  · intro l o ih ho
    have hol : ∀ x ∈ l, x.ok := fun x hx => ho x (by simp [hx])
    rw [play_snoc, look_snoc, step_has (play_wf hol) (ho o (by simp))]
    split
    · rfl
    · exact ih hol

set_option maxRecDepth 100000 in
set_option maxHeartbeats 1000000 in
theorem said_core (w : World) (A : Option Addr) (n c : Nat) (l : List Opn) (k : Int) (hln : l.length = n) (hn : n ≤ 100000000) (hs : Script w A c l) :
    Calls Try.prog 15 #[.slice A n c, .int .u64 k] w fun e w' => e = .returned (.tuple #[.int .i64 ((look l k).getD 0), .bool (look l k).isSome]) ∧ Below w.heap.size w w' := by
  go_enter Try.func15, Try.ntmps15
  go_wp2_with fail
  go_loopw [6] (fun i wr => ∃ z : Int, -1 ≤ z ∧ z < n ∧ i = .int .i64 z ∧ Hid (look (l.take (z + 1).toNat) k = look l k) ∧ Below w.heap.size w wr) (fun i _ => (intOf i + 1).toNat)
  case atStart => exact ⟨(n : Int) - 1, by omega, by omega, rfl, by rw [show ((n : Int) - 1 + 1).toNat = n from by omega, List.take_of_length_le (by omega)]; rfl, Below.refl _ _⟩
  case round =>
    obtain ⟨z, hz1, hz2, rfl, HL, hB⟩ := hrel
    have hBz := hB.size
    by_cases hz : 0 ≤ z
    · obtain ⟨j, rfl⟩ := Int.eq_ofNat_of_zero_le hz
      obtain ⟨o, ho⟩ : ∃ o, l[j]? = some o := ⟨_, List.getElem?_eq_getElem (by omega)⟩
      obtain ⟨b, off, rfl, hbl, c0, c1, c2, c3⟩ := hs.2.2.2 j o ho
      have t0 := (hB.cell (p := ⟨b, off + j * 4, none⟩) hbl).trans c0
      have t1 := (hB.cell (p := ⟨b, off + j * 4 + 1, none⟩) hbl).trans c1
      have t2 := (hB.cell (p := ⟨b, off + j * 4 + 2, none⟩) hbl).trans c2
      have t3 := (hB.cell (p := ⟨b, off + j * 4 + 3, none⟩) hbl).trans c3
      have HS := Lib.hid (show look l k = if covers o k then told o else look (l.take j) k by
        have h := HL.out
        rw [show ((j : Int) + 1).toNat = j + 1 from by omega, M.take_snoc ho, look_snoc] at h
        exact h.symm)
      clear c0 c1 c2 c3 hs ho hln HL
      by_cases hc : covers o k
      · have HS2 := Lib.hid (show look l k = told o by rw [HS.out, if_pos hc])
        clear HS
        obtain ⟨hk, hlo, hhi⟩ := hc
        rcases hk with hk | hk
        · have q1 : (o.kind == 1) = true := by simpa using hk
          have HS3 := Lib.hid (show look l k = some o.val by rw [HS2.out]; unfold told; rw [if_pos hk])
          clear HS2 hk
          go_wp2_with fail
          go_ret2
          exact ⟨by rw [HS3.out]; rfl, hB.alloc hBz _⟩
        · have q1 : (o.kind == 1) = false := by simp; omega
          have q2 : (o.kind == 2) = true := by simpa using hk
          have HS3 := Lib.hid (show look l k = none by rw [HS2.out]; unfold told; rw [if_neg (by omega)])
          clear HS2 hk
          go_wp2_with fail
          go_ret2
          exact ⟨by rw [HS3.out]; rfl, hB.alloc hBz _⟩
      · have HS2 := Lib.hid (show look (l.take j) k = look l k by rw [HS.out, if_neg hc])
        have hcase : ((o.kind == 1) = false ∧ (o.kind == 2) = false) ∨ ((o.kind == 1) = true ∧ k < o.lo) ∨ ((o.kind == 1) = true ∧ o.lo ≤ k ∧ o.hi < k) ∨ ((o.kind == 1) = false ∧ (o.kind == 2) = true ∧ k < o.lo) ∨ ((o.kind == 1) = false ∧ (o.kind == 2) = true ∧ o.lo ≤ k ∧ o.hi < k) := by
          unfold covers at hc
          simp only [beq_eq_false_iff_ne, beq_iff_eq, ne_eq]
          omega
        clear HS hc
        rcases hcase with ⟨q1, q2⟩ | ⟨q1, q3⟩ | ⟨q1, q3, q4⟩ | ⟨q1, q2, q3⟩ | ⟨q1, q2, q3, q4⟩
        all_goals
          go_wp2_with fail
          go_roundw
          case rel => exact ⟨(j : Int) - 1, by omega, by omega, rfl, by rw [show ((j : Int) - 1 + 1).toNat = j from by omega]; exact HS2.out, hB.alloc hBz _⟩
          case measure => simp only [intOf]; omega
    · obtain rfl : z = -1 := by omega
      have HS3 := Lib.hid (show look l k = none by have h := HL.out; simpa [look] using h.symm)
      clear HL hs
      go_wp2_with fail
      go_ret2
      exact ⟨by rw [HS3.out]; rfl, hB⟩

end Go.Proofs.Ythkolpjbkbcmbaa
