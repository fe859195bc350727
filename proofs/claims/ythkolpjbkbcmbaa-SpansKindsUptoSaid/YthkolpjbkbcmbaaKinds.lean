/- The walk of SpansKinds: a map of Tags and the reference's map of their numbers. -/
import Derived.Test.YthkolpjbkbcmbaaKSet
import Derived.Test.YthkolpjbkbcmbaaKRead
import Derived.Test.YthkolpjbkbcmbaaPlays
set_option linter.unusedVariables false
set_option linter.unusedSimpArgs false
namespace Go.Proofs.Ythkolpjbkbcmbaa.K
open Go.RowKit

/-- The program's map is kept by a call on the reference's. -/
theorem rgrow_map {B p : Nat} {w w' : World} {D : List M.Dn} (h : RGrow B p w w') (hr : RefAt w B p D) {base q : Nat} {L : List S} (hM : MapAt w base q L) : MapAt w' base q L := by
  obtain ⟨_, _, _, _, hp, _⟩ := hr
  obtain ⟨A, c, hq, hrow⟩ := hM
  have hql := (Array.getElem?_eq_some_iff.1 hq).1
  have hqp : q ≠ p := by rintro rfl; rw [hp] at hq; injection hq with hq; injection hq with _ hq _; revert hq; decide
  refine ⟨A, c, (h.block q hql hqp (.inr fun cs fr e => ?_)).trans hq, ?_⟩
  · rw [hq] at e; injection e with e; injection e with _ e _; revert e; decide
  · obtain ⟨h1, h2⟩ := hrow
    refine ⟨h1, h2.imp id ?_⟩
    rintro ⟨g, cap, cur, e1, e2, e3, e4⟩
    have hgl := (Array.getElem?_eq_some_iff.1 e3).1
    refine ⟨g, cap, cur, e1, e2, (h.block g hgl ?_ (.inr fun cs fr e => ?_)).trans e3, e4⟩
    · rintro rfl; rw [hp] at e3; injection e3 with e3; injection e3 with _ e3 _; revert e3; decide
    · rw [e3] at e; injection e with e; injection e with _ e _; revert e; decide

/-- Both maps stand; nothing that lay below B has turned since w0. -/
structure KI (B : Nat) (w0 : World) (pm pr : Nat) (L : List S) (D : List M.Dn) (w : World) : Prop where
  map : MapAt w 0 pm L
  ref : RefAt w B pr D
  below : Below B w0 w
  size : B ≤ w.heap.size
  pm : B ≤ pm
/-- .. and the round's box stands. -/
structure KB (B : Nat) (w0 : World) (pm pr : Nat) (b : Nat) (cs : Array Value) (L : List S) (D : List M.Dn) (w : World) : Prop where
  ki : KI B w0 pm pr L D w
  box : w.heap[b]? = some (.cells cs 29 (0, 0))

section
variable {B : Nat} {w0 w w' : World} {pm pr b : Nat} {cs : Array Value} {L L' : List S} {D D' : List M.Dn}
theorem KI.then (h : KI B w0 pm pr L D w) (hb : Below w.heap.size w w') : KI B w0 pm pr L D w' :=
  ⟨h.map.below hb, h.ref.below hb, below_then h.below h.size hb, by have := hb.size; have := h.size; omega, h.pm⟩
theorem KI.drewN (h : KI B w0 pm pr L D w) (n : Nat) : KI B w0 pm pr L D (w.drewN n) := h.then ⟨rfl, rfl, rfl, Nat.le_refl _, fun _ _ => rfl⟩
theorem KB.then (h : KB B w0 pm pr b cs L D w) (hb : Below w.heap.size w w') : KB B w0 pm pr b cs L D w' :=
  ⟨h.ki.then hb, (hb.block b (Array.getElem?_eq_some_iff.1 h.box).1).trans h.box⟩
theorem KB.drewN (h : KB B w0 pm pr b cs L D w) (n : Nat) : KB B w0 pm pr b cs L D (w.drewN n) := h.then ⟨rfl, rfl, rfl, Nat.le_refl _, fun _ _ => rfl⟩
theorem KB.cell (h : KB B w0 pm pr b cs L D w) (i : Nat) : w.cell? ⟨b, i, none⟩ = cs[i]? := by simp [cell_of_row w b i _ _ _ h.box]
theorem ref_grown {B p q : Nat} {w w' : World} {D : List M.Dn} (hr : RefAt w B p D) {base : Nat} {L : List S} (hM : MapAt w base q L) (h : w.grownBy w' (some q)) : RefAt w' B p D := by
  obtain ⟨h1, h2, A, c, hp, hrow⟩ := hr
  obtain ⟨A', c', hq, _⟩ := hM
  have hne : p ≠ q := by rintro rfl; rw [hp] at hq; injection hq with hq; injection hq with _ hq _; revert hq; decide
  refine ⟨h1, h2, A, c, (h.block p (Array.getElem?_eq_some_iff.1 hp).1 (by intro e; injection e with e; exact hne e)).trans hp, hrow.kept h ?_⟩
  cases hv : (Value.slice A D.length c).ownBlock with
  | none => exact .inl rfl
  | some g =>
    refine .inr fun e => ?_
    injection e with e
    subst e
    rcases hrow.2 with ⟨e1, _⟩ | ⟨g', cap, cur, e1, _, e3, _⟩
    · rw [e1] at hv; cases hv
    · rw [e1] at hv; injection hv with hv; subst hv; rw [e3] at hq; injection hq with hq; injection hq with _ hq _; revert hq; decide
theorem KB.set (h : KB B w0 pm pr b cs L D w) (hM : MapAt w' 0 pm L') (hg : w.grownBy w' (some pm)) : KB B w0 pm pr b cs L' D w' := by
  obtain ⟨⟨h1, h2, h3, h4, h5⟩, h6⟩ := h
  have hne : b ≠ pm := by
    rintro rfl
    obtain ⟨_, _, hp, _⟩ := h1
    rw [h6] at hp; injection hp with hp; injection hp with _ hp _; revert hp; decide
  exact ⟨⟨hM, ref_grown h2 h1 hg, h3.grown hg h4 (fun k hk => by injection hk with hk; omega), Nat.le_trans h4 hg.size, h5⟩, grown_box hg h6 hne⟩
theorem KB.rset (h : KB B w0 pm pr b cs L D w) (hR : RefAt w' B pr D') (hg : RGrow B pr w w') : KB B w0 pm pr b cs L D' w' := by
  obtain ⟨⟨h1, h2, h3, h4, h5⟩, h6⟩ := h
  have hne : b ≠ pr := by
    rintro rfl
    obtain ⟨_, _, _, _, hp, _⟩ := h2
    rw [h6] at hp; injection hp with hp; injection hp with _ hp _; revert hp; decide
  exact ⟨⟨rgrow_map hg h2 h1, hR, hg.below h3 (Nat.le_refl _) h4 h2.1, Nat.le_trans h4 hg.size, h5⟩, hg.box h6 hne (by decide)⟩
end


/-- What a round's calls do, as contracts over letters. -/
structure Rd (B : Nat) (w0 : World) (pm pr b : Nat) (kind lo hi val tv en v t : Int) (tvb tb ok : Bool) (L L2 : List S) (D D2 : List M.Dn) : Prop where
  no : ∀ W x, Calls Try.prog 22 #[.int .i64 x] W fun r w' => r = .returned (.int .i64 x) ∧ w' = W
  tag : ∀ W, Calls Try.prog 24 #[.int .i64 val] W fun e w' => e = .returned (.agg #[.int .i64 tv, .bool tvb]) ∧ Below W.heap.size W w'
  tagv : ∀ W, Calls Try.prog 24 #[.int .i64 v] W fun e w' => e = .returned (.agg #[.int .i64 t, .bool tb]) ∧ Below W.heap.size W w'
  set : kind = 1 → ∀ W D', KB B w0 pm pr b #[.int .i64 kind, .int .u64 lo, .int .u64 hi, .int .i64 val] L D' W → Calls Try.prog 23 #[.pointer (some ⟨pm, 0, none⟩), .int .u64 lo, .int .u64 hi, .agg #[.int .i64 tv, .bool tvb]] W fun e w' => e = .returned (.int .i64 en) ∧ KB B w0 pm pr b #[.int .i64 kind, .int .u64 lo, .int .u64 hi, .int .i64 val] L2 D' w'
  rset : kind = 1 → ∀ W L', KB B w0 pm pr b #[.int .i64 kind, .int .u64 lo, .int .u64 hi, .int .i64 val] L' D W → Calls Try.prog 25 #[.pointer (some ⟨pr, 0, none⟩), .int .u64 lo, .int .u64 hi, .int .i64 val] W fun e w' => e = .returned (.int .i64 en) ∧ KB B w0 pm pr b #[.int .i64 kind, .int .u64 lo, .int .u64 hi, .int .i64 val] L' D2 w'
  clr : kind = 2 → ∀ W D', KB B w0 pm pr b #[.int .i64 kind, .int .u64 lo, .int .u64 hi, .int .i64 val] L D' W → Calls Try.prog 26 #[.pointer (some ⟨pm, 0, none⟩), .int .u64 lo, .int .u64 hi] W fun e w' => e = .returned (.int .i64 en) ∧ KB B w0 pm pr b #[.int .i64 kind, .int .u64 lo, .int .u64 hi, .int .i64 val] L2 D' w'
  rclr : kind = 2 → ∀ W L', KB B w0 pm pr b #[.int .i64 kind, .int .u64 lo, .int .u64 hi, .int .i64 val] L' D W → Calls Try.prog 27 #[.pointer (some ⟨pr, 0, none⟩), .int .u64 lo, .int .u64 hi] W fun e w' => e = .returned (.int .i64 en) ∧ KB B w0 pm pr b #[.int .i64 kind, .int .u64 lo, .int .u64 hi, .int .i64 val] L' D2 w'
  stay : ¬ kind = 1 → ¬ kind = 2 → L2 = L ∧ D2 = D
  get : ∀ W, KB B w0 pm pr b #[.int .i64 kind, .int .u64 lo, .int .u64 hi, .int .i64 val] L2 D2 W → Calls Try.prog 28 #[.pointer (some ⟨pm, 0, none⟩), .int .u64 lo] W fun e w' => e = .returned (.tuple #[.agg #[.int .i64 t, .bool tb], .bool ok]) ∧ Below W.heap.size W w'
  rget : ∀ W, KI B w0 pm pr L2 D2 W → Calls Try.prog 29 #[.pointer (some ⟨pr, 0, none⟩), .int .u64 lo] W fun e w' => e = .returned (.tuple #[.int .i64 v, .bool ok]) ∧ Below W.heap.size W w'

theorem rd_of (B : Nat) (w0 : World) (pm pr b : Nat) (kind lo hi val : Int) (L : List S) (D : List M.Dn) (hS : Same L D) (hoo : Opn.ok ⟨kind, lo, hi, val⟩) (hL : L.length ≤ 400000000) (hD : D.length ≤ 100000000) :
    Same (step L ⟨kind, lo, hi, val⟩) (rstep D ⟨kind, lo, hi, val⟩) ∧ ∃ tv en v t tvb tb ok, Rd B w0 pm pr b kind lo hi val tv en v t tvb tb ok L (step L ⟨kind, lo, hi, val⟩) D (rstep D ⟨kind, lo, hi, val⟩) := by
  have hS2 := hS.step hoo
  have hL2 : (step L ⟨kind, lo, hi, val⟩).length ≤ 400000002 := by
    have h1 := put_length (some val) hS.1 hoo.1 hoo.2.2.2.1
    have h2 := put_length none hS.1 hoo.1 hoo.2.2.2.1
    dsimp only at h1 h2
    unfold step
    dsimp only
    split
    · omega
    · split <;> omega
  have hD2 : (rstep D ⟨kind, lo, hi, val⟩).length ≤ 100000001 := by have := rstep_length D ⟨kind, lo, hi, val⟩; omega
  refine ⟨hS2, val / 2, eno lo hi, (sp (run (step L ⟨kind, lo, hi, val⟩) lo)).v, (sp (run (step L ⟨kind, lo, hi, val⟩) lo)).v / 2, val % 2 != 0, (sp (run (step L ⟨kind, lo, hi, val⟩) lo)).v % 2 != 0, (run (step L ⟨kind, lo, hi, val⟩) lo).isSome, ?_⟩
  have e1 : kind = 1 → step L ⟨kind, lo, hi, val⟩ = put L lo hi (some val) ∧ rstep D ⟨kind, lo, hi, val⟩ = radd D lo hi (some val) := fun h => ⟨by unfold step; exact if_pos h, by unfold rstep; exact if_pos h⟩
  have e2 : kind = 2 → step L ⟨kind, lo, hi, val⟩ = put L lo hi none ∧ rstep D ⟨kind, lo, hi, val⟩ = radd D lo hi none := fun h => ⟨by unfold step; rw [if_neg (by show ¬ kind = 1; omega)]; exact if_pos h, by unfold rstep; rw [if_neg (by show ¬ kind = 1; omega)]; exact if_pos h⟩
  exact {
    no := fun W x => no_calls x W
    tag := fun W => tag_calls W val
    tagv := fun W => tag_calls W _
    set := fun hk W D' h => by
      rw [(e1 hk).1]
      exact (set_calls W pm L lo hi val h.ki.map (by omega) hS.1 hoo.1 hoo.2.2.2.1).mono fun e w' ⟨he, h1, h2⟩ => ⟨he, h.set h1 h2⟩
    rset := fun hk W L' h => by
      rw [(e1 hk).2]
      exact (rset_calls W B pr D lo hi val h.ki.ref (by omega) hoo.1 hoo.2.2.2.1).mono fun e w' ⟨he, h1, h2⟩ => ⟨he, h.rset h1 h2⟩
    clr := fun hk W D' h => by
      rw [(e2 hk).1]
      exact (clear_calls W pm L lo hi h.ki.map (by omega) hS.1 hoo.1 hoo.2.2.2.1).mono fun e w' ⟨he, h1, h2⟩ => ⟨he, h.set h1 h2⟩
    rclr := fun hk W L' h => by
      rw [(e2 hk).2]
      exact (rclear_calls W B pr D lo hi h.ki.ref (by omega) hoo.1 hoo.2.2.2.1).mono fun e w' ⟨he, h1, h2⟩ => ⟨he, h.rset h1 h2⟩
    stay := fun h h' => ⟨by unfold step; rw [if_neg h]; exact if_neg h', by unfold rstep; rw [if_neg h]; exact if_neg h'⟩
    get := fun W h => get_calls W 0 pm _ lo h.ki.map hS2.1 (by omega)
    rget := fun W h => rget_same W B pr _ _ lo h.ref (by omega) hS2 }

set_option maxRecDepth 100000 in
set_option maxHeartbeats 4000000 in
theorem kinds_core (w : World) (A : Option Addr) (n c : Nat) (l : List Opn) (hln : l.length = n) (hn : n ≤ 40000000) (hs : Script w A c l) :
    Calls Try.prog 5 #[.slice A n c] w fun e w' => e = .returned (.bool true) ∧ Below w.heap.size w w' := by
  have hok := hs.2.2.1
  go_enter Try.func5, Try.ntmps5
  go_wp2_with fail
  refine (new_calls _).mono ?_
  rintro e w1 ⟨rfl, hM, hb⟩
  have hz := hb.size
  have hT0 : KI w.heap.size w w.heap.size w1.heap.size [] [] (w1.alloc (.cells #[.slice none 0 0] 49)) :=
    ⟨hM.alloc _, ref_new w1 _ hz, hb.alloc hz _, by simp; omega, Nat.le_refl _⟩
  have HT0 := Lib.hid hT0
  clear hT0 hM hb
  go_wp2_with fail
  refine (live_calls _).mono ?_
  rintro e w2 ⟨rfl, hb⟩
  have HT2 := Lib.hid (HT0.out.then hb)
  clear hb HT0
  go_wp2_with fail
  have HSame := Lib.hid (Same.nil)
  go_loopw [5] (fun i wr => ∃ k : Nat, k ≤ n ∧ i = .int .i64 k ∧ Hid (Same (play (l.take k)) (rplay (l.take k))) ∧ Hid (KI w.heap.size w w.heap.size w1.heap.size (play (l.take k)) (rplay (l.take k)) wr)) (fun i _ => n - (intOf i).toNat)
  case atStart => exact ⟨0, Nat.zero_le _, rfl, HSame, HT2⟩
  case round =>
    obtain ⟨k, hk, rfl, HS, HT⟩ := hrel
    clear HT2 HSame
    have hokk : ∀ x ∈ l.take k, x.ok := fun x hx => hok x (List.mem_of_mem_take hx)
    have hlk := List.length_take_le k l
    have hLk : (play (l.take k)).length ≤ 400000000 := by have := play_length hokk; omega
    have hDk : (rplay (l.take k)).length ≤ 100000000 := by have := rplay_length (l.take k); omega
    by_cases hlt : k < n
    · obtain ⟨o, ho⟩ : ∃ o, l[k]? = some o := ⟨_, List.getElem?_eq_getElem (by omega)⟩
      obtain ⟨b, off, rfl, hbl, c0, c1, c2, c3⟩ := hs.2.2.2 k o ho
      have t0 := (HT.out.below.cell (p := ⟨b, off + k * 4, none⟩) hbl).trans c0
      have t1 := (HT.out.below.cell (p := ⟨b, off + k * 4 + 1, none⟩) hbl).trans c1
      have t2 := (HT.out.below.cell (p := ⟨b, off + k * 4 + 2, none⟩) hbl).trans c2
      have t3 := (HT.out.below.cell (p := ⟨b, off + k * 4 + 3, none⟩) hbl).trans c3
      clear c0 c1 c2 c3
      have hoo := hok o (List.mem_of_getElem? ho)
      have HP := Lib.hid (show play (l.take (k + 1)) = step (play (l.take k)) o ∧ rplay (l.take (k + 1)) = rstep (rplay (l.take k)) o by rw [M.take_snoc ho, play_snoc, rplay_snoc]; exact ⟨rfl, rfl⟩)
      obtain ⟨kind, lo, hi, val⟩ := o
      obtain ⟨hS2, tv, en, v, t, tvb, tb, ok, hRd⟩ := rd_of w.heap.size w w.heap.size w1.heap.size wr.heap.size kind lo hi val _ _ HS.out hoo hLk hDk
      have HS2 := Lib.hid hS2
      have HRd := Lib.hid hRd
      clear hS2 hRd
      generalize play (l.take k) = L at *
      generalize rplay (l.take k) = D at *
      have hKB : KB w.heap.size w w.heap.size w1.heap.size wr.heap.size #[.int .i64 kind, .int .u64 lo, .int .u64 hi, .int .i64 val] L D (wr.alloc (.cells #[.int .i64 kind, .int .u64 lo, .int .u64 hi, .int .i64 val] 29)) :=
        ⟨HT.out.then ((Below.refl _ _).alloc (Nat.le_refl _) _), heap_alloc_new wr _⟩
      have HKB := Lib.hid hKB
      clear hKB hokk hlk hLk hDk hoo ho hs hok HT HS hln
      generalize step L ⟨kind, lo, hi, val⟩ = L2 at *
      generalize rstep D ⟨kind, lo, hi, val⟩ = D2 at *
      dsimp only at t0 t1 t2 t3
      go_wp2_with fail
      have hc0 := HKB.out.cell 0
      have hc1 := HKB.out.cell 1
      have hc2 := HKB.out.cell 2
      have hc3 := HKB.out.cell 3
      obtain ⟨wA, hwA⟩ : ∃ wA : World, wA = wr.alloc (.cells #[.int .i64 kind, .int .u64 lo, .int .u64 hi, .int .i64 val] 29) := ⟨_, rfl⟩
      by_cases k1 : kind = 1
      · have q1 : (kind == 1) = true := by simpa using k1
        have q2 : (kind == 2) = false := by simp; omega
        have HSet := fun W D' h => Lib.hid (HRd.out.set k1 W D' h)
        have HRSet := fun W L' h => Lib.hid (HRd.out.rset k1 W L' h)
        have HTag := fun W => Lib.hid (HRd.out.tag W)
        have HNo := fun W x => Lib.hid (HRd.out.no W x)
        have qe : (en == en) = true := by simp
        clear k1
        have hI := HKB.out
        clear HKB
        go_region_held3 (fun w' => w'.cell? ⟨wr.heap.size, 0, none⟩ = some (Value.int IntKind.i64 kind) ∧ w'.cell? ⟨wr.heap.size, 1, none⟩ = some (Value.int IntKind.u64 lo) ∧ w'.cell? ⟨wr.heap.size, 2, none⟩ = some (Value.int IntKind.u64 hi) ∧ w'.cell? ⟨wr.heap.size, 3, none⟩ = some (Value.int IntKind.i64 val))
          (first | exact ⟨hI.cell 0, hI.cell 1, hI.cell 2, hI.cell 3⟩ | exact ⟨hc0, hc1, hc2, hc3⟩)
          (first
            | (go_simp; go_at_call 24; refine (HTag _).out.mono ?_; rintro e w2 ⟨rfl, hb⟩; replace hI := (by first | exact hI.then hb | exact (hI.drewN _).then hb); clear hb; go_simp)
            | (go_simp; go_at_call 23; refine (HSet _ _ (by first | exact hI | exact hI.drewN _)).out.mono ?_; rintro e w2 ⟨rfl, hI2⟩; replace hI := hI2; clear hI2; go_simp)
            | (go_simp; go_at_call 25; refine (HRSet _ _ (by first | exact hI | exact hI.drewN _)).out.mono ?_; rintro e w2 ⟨rfl, hI2⟩; replace hI := hI2; clear hI2; go_simp)
            | (go_simp; go_at_call 22; refine (HNo _ _).out.mono ?_; rintro e w4 ⟨rfl, rfl⟩; go_simp))
        have hc0' := hI.cell 0
        have HJ := Lib.hid hI
        clear hI HSet HRSet HTag HNo
        go_wp2_with fail
        go_quiet (fail)
        replace HJ := Lib.hid (HJ.out.drewN nq)
        have HI := Lib.hid (HJ.out)
        have hd1 := HI.out.cell 1
        clear HJ
        go_wp2_with fail
        refine (HRd.out.get _ HI.out).mono ?_
        rintro e w5 ⟨rfl, hb⟩
        have HI5 := Lib.hid (HI.out.then hb)
        have hd5 := HI5.out.cell 1
        have hz5 := (Array.getElem?_eq_some_iff.1 HI5.out.box).1
        clear hb HI hd1
        go_wp2_with fail
        refine (HRd.out.rget _ (HI5.out.ki.then ((Below.refl _ _).alloc (Nat.le_refl _) _))).mono ?_
        rintro e w6 ⟨rfl, hb⟩
        obtain ⟨hz6, hc6, _⟩ := newbox hb
        have c0 := hc6 0 _ rfl
        have c1 := hc6 1 _ rfl
        have HI6 := Lib.hid ((HI5.out.ki.then ((Below.refl _ _).alloc (Nat.le_refl _) _)).then hb)
        have HTv := fun W => Lib.hid (HRd.out.tagv W)
        have hNe := fun W => neq46_same t tb W
        clear hb hc6 HI5 hd5
        go_wp2_with fail
        go_region_held3 (fun w' => w'.cell? ⟨w5.heap.size, 0, none⟩ = some (Value.int IntKind.i64 t) ∧ w'.cell? ⟨w5.heap.size, 1, none⟩ = some (Value.bool tb))
          (first | exact ⟨c0, c1⟩ | exact ⟨d0, d1⟩)
          (first
            | (go_simp; go_at_call 24; refine (HTv _).out.mono ?_; rintro e w7 ⟨rfl, hb⟩; have d0 := (hb.cell (p := ⟨w5.heap.size, 0, none⟩) hz6).trans c0; have d1 := (hb.cell (p := ⟨w5.heap.size, 1, none⟩) hz6).trans c1; go_simp))
        have HF := Lib.hid (by first | exact HI6.out.then hb | exact (HI6.out.drewN 1).then hb : KI w.heap.size w w.heap.size w1.heap.size L2 D2 w7)
        clear hb d0 d1 HTv hNe HRd HI6
        go_wp2_with fail
        go_roundw
        case rel => exact ⟨k + 1, by omega, by go_num, by rw [HP.out.1, HP.out.2]; exact HS2, by rw [HP.out.1, HP.out.2]; exact HF⟩
        case measure => simp [intOf]; omega
      · have q1 : (kind == 1) = false := by simpa using k1
        by_cases k2 : kind = 2
        · have q2 : (kind == 2) = true := by simpa using k2
          have HClr := fun W D' h => Lib.hid (HRd.out.clr k2 W D' h)
          have HRClr := fun W L' h => Lib.hid (HRd.out.rclr k2 W L' h)
          have HNo := fun W x => Lib.hid (HRd.out.no W x)
          have qe : (en == en) = true := by simp
          clear k1 k2
          go_quiet (fail)
          have hI := HKB.out.drewN nq
          clear HKB hc0 hc1 hc2 hc3
          generalize World.drewN _ nq = wQ at hI ⊢
          have hc0 := hI.cell 0
          have hc1 := hI.cell 1
          have hc2 := hI.cell 2
          go_wp2_with fail
          go_region_held3 (fun w' => w'.cell? ⟨wr.heap.size, 0, none⟩ = some (Value.int IntKind.i64 kind) ∧ w'.cell? ⟨wr.heap.size, 1, none⟩ = some (Value.int IntKind.u64 lo) ∧ w'.cell? ⟨wr.heap.size, 2, none⟩ = some (Value.int IntKind.u64 hi))
            (first | exact ⟨hI.cell 0, hI.cell 1, hI.cell 2⟩ | exact ⟨hc0, hc1, hc2⟩)
            (first
              | (go_simp; go_at_call 26; refine (HClr _ _ (by first | exact hI | exact hI.drewN _)).out.mono ?_; rintro e w2 ⟨rfl, hI2⟩; replace hI := hI2; clear hI2; go_simp)
              | (go_simp; go_at_call 27; refine (HRClr _ _ (by first | exact hI | exact hI.drewN _)).out.mono ?_; rintro e w2 ⟨rfl, hI2⟩; replace hI := hI2; clear hI2; go_simp)
              | (go_simp; go_at_call 22; refine (HNo _ _).out.mono ?_; rintro e w4 ⟨rfl, rfl⟩; go_simp))
          have HJ := Lib.hid hI
          clear hI HClr HRClr HNo
          have HI := Lib.hid (HJ.out)
          have hd1 := HI.out.cell 1
          clear HJ
          go_wp2_with fail
          refine (HRd.out.get _ HI.out).mono ?_
          rintro e w5 ⟨rfl, hb⟩
          have HI5 := Lib.hid (HI.out.then hb)
          have hd5 := HI5.out.cell 1
          have hz5 := (Array.getElem?_eq_some_iff.1 HI5.out.box).1
          clear hb HI hd1
          go_wp2_with fail
          refine (HRd.out.rget _ (HI5.out.ki.then ((Below.refl _ _).alloc (Nat.le_refl _) _))).mono ?_
          rintro e w6 ⟨rfl, hb⟩
          obtain ⟨hz6, hc6, _⟩ := newbox hb
          have c0 := hc6 0 _ rfl
          have c1 := hc6 1 _ rfl
          have HI6 := Lib.hid ((HI5.out.ki.then ((Below.refl _ _).alloc (Nat.le_refl _) _)).then hb)
          have HTv := fun W => Lib.hid (HRd.out.tagv W)
          have hNe := fun W => neq46_same t tb W
          clear hb hc6 HI5 hd5
          go_wp2_with fail
          go_region_held3 (fun w' => w'.cell? ⟨w5.heap.size, 0, none⟩ = some (Value.int IntKind.i64 t) ∧ w'.cell? ⟨w5.heap.size, 1, none⟩ = some (Value.bool tb))
            (first | exact ⟨c0, c1⟩ | exact ⟨d0, d1⟩)
            (first
              | (go_simp; go_at_call 24; refine (HTv _).out.mono ?_; rintro e w7 ⟨rfl, hb⟩; have d0 := (hb.cell (p := ⟨w5.heap.size, 0, none⟩) hz6).trans c0; have d1 := (hb.cell (p := ⟨w5.heap.size, 1, none⟩) hz6).trans c1; go_simp))
          have HF := Lib.hid (by first | exact HI6.out.then hb | exact (HI6.out.drewN 1).then hb : KI w.heap.size w w.heap.size w1.heap.size L2 D2 w7)
          clear hb d0 d1 HTv hNe HRd HI6
          go_wp2_with fail
          go_roundw
          case rel => exact ⟨k + 1, by omega, by go_num, by rw [HP.out.1, HP.out.2]; exact HS2, by rw [HP.out.1, HP.out.2]; exact HF⟩
          case measure => simp [intOf]; omega
        · have q2 : (kind == 2) = false := by simpa using k2
          obtain ⟨hl, hd⟩ := HRd.out.stay k1 k2
          subst hl
          subst hd
          clear k1 k2
          go_quiet (fail)
          have hI := HKB.out.drewN nq
          clear HKB hc0 hc1 hc2 hc3
          generalize World.drewN _ nq = wQ at hI ⊢
          have hc0 := hI.cell 0
          have hc1 := hI.cell 1
          go_wp2_with fail
          go_quiet (fail)
          have hI2 := hI.drewN nq
          clear hI hc0 hc1
          generalize World.drewN _ nq = wQ2 at hI2 ⊢
          have HJ := Lib.hid hI2
          clear hI2
          have HI := Lib.hid (HJ.out)
          have hd1 := HI.out.cell 1
          clear HJ
          go_wp2_with fail
          refine (HRd.out.get _ HI.out).mono ?_
          rintro e w5 ⟨rfl, hb⟩
          have HI5 := Lib.hid (HI.out.then hb)
          have hd5 := HI5.out.cell 1
          have hz5 := (Array.getElem?_eq_some_iff.1 HI5.out.box).1
          clear hb HI hd1
          go_wp2_with fail
          refine (HRd.out.rget _ (HI5.out.ki.then ((Below.refl _ _).alloc (Nat.le_refl _) _))).mono ?_
          rintro e w6 ⟨rfl, hb⟩
          obtain ⟨hz6, hc6, _⟩ := newbox hb
          have c0 := hc6 0 _ rfl
          have c1 := hc6 1 _ rfl
          have HI6 := Lib.hid ((HI5.out.ki.then ((Below.refl _ _).alloc (Nat.le_refl _) _)).then hb)
          have HTv := fun W => Lib.hid (HRd.out.tagv W)
          have hNe := fun W => neq46_same t tb W
          clear hb hc6 HI5 hd5
          go_wp2_with fail
          go_region_held3 (fun w' => w'.cell? ⟨w5.heap.size, 0, none⟩ = some (Value.int IntKind.i64 t) ∧ w'.cell? ⟨w5.heap.size, 1, none⟩ = some (Value.bool tb))
            (first | exact ⟨c0, c1⟩ | exact ⟨d0, d1⟩)
            (first
              | (go_simp; go_at_call 24; refine (HTv _).out.mono ?_; rintro e w7 ⟨rfl, hb⟩; have d0 := (hb.cell (p := ⟨w5.heap.size, 0, none⟩) hz6).trans c0; have d1 := (hb.cell (p := ⟨w5.heap.size, 1, none⟩) hz6).trans c1; go_simp))
          have HF := Lib.hid (by first | exact HI6.out.then hb | exact (HI6.out.drewN 1).then hb : KI w.heap.size w w.heap.size w1.heap.size L2 D2 w7)
          clear hb d0 d1 HTv hNe HRd HI6
          go_wp2_with fail
          go_roundw
          case rel => exact ⟨k + 1, by omega, by go_num, by rw [HP.out.1, HP.out.2]; exact HS2, by rw [HP.out.1, HP.out.2]; exact HF⟩
          case measure => simp [intOf]; omega
    · obtain rfl : k = n := by omega
      have hWF := HS.out.1
      generalize play (l.take k) = L at *
      generalize rplay (l.take k) = D at *
      clear hs hok hln hokk hlk
      have HSp := Lib.hid (spans_calls wr w.heap.size L HT.out.map (by omega))
      have HRS := fun W (h : KI w.heap.size w w.heap.size w1.heap.size L D W) => Lib.hid (rspans_same W w.heap.size w1.heap.size D L h.ref hDk h.size HS.out)
      have HLen := fun W (h : KI w.heap.size w w.heap.size w1.heap.size L D W) => Lib.hid (len_calls W 0 w.heap.size L h.map)
      clear hWF HS hDk
      generalize hm : L.length = m at *
      have HM := Lib.hid hm
      clear hm
      go_wp2_with fail
      refine HSp.out.mono ?_
      rintro e w3 ⟨rfl, hR, hb⟩
      have HT3 := Lib.hid (HT.out.then hb)
      have HR3 := Lib.hid hR
      clear hb hR HSp HT
      generalize wr.heap.size = gW at *
      go_wp2_with fail
      refine (HRS _ HT3.out).out.mono ?_
      rintro e w4 ⟨A', c', rfl, hR', _, hb⟩
      have HT4 := Lib.hid (HT3.out.then hb)
      have HR4 := Lib.hid (HR3.out.below hb)
      have HR4' := Lib.hid hR'
      clear hb hR' HRS HT3 HR3
      go_wp2_with fail
      refine (HLen _ HT4.out).out.mono ?_
      rintro e w5 ⟨rfl, nq, rfl⟩
      clear HLen
      go_wp2_with fail
      have hB0 : Below w4.heap.size w4 (w4.drewN nq) := ⟨rfl, rfl, rfl, Nat.le_refl _, fun _ _ => rfl⟩
      go_loopw [13] (fun i wr => ∃ j : Nat, j ≤ m ∧ i = .int .i64 j ∧ Below w4.heap.size w4 wr) (fun i _ => m - (intOf i).toNat)
      case atStart => exact ⟨0, Nat.zero_le _, rfl, hB0⟩
      case round =>
        obtain ⟨j, hj, rfl, hB⟩ := hrel
        clear hB0
        by_cases hjm : j < m
        · obtain ⟨s, hs⟩ : ∃ s, L[j]? = some s := ⟨_, List.getElem?_eq_getElem (by rw [HM.out]; exact hjm)⟩
          have HBz := hB.size
          obtain ⟨A1, c1, hv, _, _, hcell⟩ := HR4.out.read
          injection hv with e1 e2 e3
          subst e1; subst e3
          obtain ⟨A2, c2, hv, hcell'⟩ := HR4'.out.read
          injection hv with e1 e4 e3
          subst e1; subst e3
          obtain ⟨g, e5, _, hgl, t0, t1, t2, t3, _⟩ := hcell j s hs
          obtain ⟨g', rfl, _, hgl', r0, r1, r2, _⟩ := hcell' j s hs
          injection e5 with e5
          injection e5 with e5 _ _
          subst e5
          have s0 := (hB.cell (p := ⟨_, j * 4, none⟩) hgl).trans t0
          have s1 := (hB.cell (p := ⟨_, j * 4 + 1, none⟩) hgl).trans t1
          have s2 := (hB.cell (p := ⟨_, j * 4 + 2, none⟩) hgl).trans t2
          have s3 := (hB.cell (p := ⟨_, j * 4 + 3, none⟩) hgl).trans t3
          have u0 := (hB.cell (p := ⟨g', j * 3, none⟩) hgl').trans r0
          have u1 := (hB.cell (p := ⟨g', j * 3 + 1, none⟩) hgl').trans r1
          have u2 := (hB.cell (p := ⟨g', j * 3 + 2, none⟩) hgl').trans r2
          have hzr := Nat.lt_of_lt_of_le hgl hB.size
          have hzr' := Nat.lt_of_lt_of_le hgl' hB.size
          have HTv := fun W => Lib.hid (tag_calls W s.v)
          obtain ⟨slo, shi, sv⟩ := s
          dsimp only at s0 s1 s2 s3 u0 u1 u2 HTv
          have hNe := fun W => neq46_same (sv / 2) (sv % 2 != 0) W
          generalize sv / 2 = tt at *
          generalize (sv % 2 != 0) = ttb at *
          clear hcell hcell' hs t0 t1 t2 t3 r0 r1 r2 e2 e4 HM HR4 HR4' HT4 hgl hgl'
          go_wp2_with fail
          go_region_held3 (fun w' => w'.cell? ⟨gW, j * 4, none⟩ = some (Value.int IntKind.u64 slo) ∧ w'.cell? ⟨gW, j * 4 + 1, none⟩ = some (Value.int IntKind.u64 shi) ∧ w'.cell? ⟨gW, j * 4 + 2, none⟩ = some (Value.int IntKind.i64 tt) ∧ w'.cell? ⟨gW, j * 4 + 3, none⟩ = some (Value.bool ttb) ∧ w'.cell? ⟨g', j * 3, none⟩ = some (Value.int IntKind.u64 slo) ∧ w'.cell? ⟨g', j * 3 + 1, none⟩ = some (Value.int IntKind.u64 shi) ∧ w'.cell? ⟨g', j * 3 + 2, none⟩ = some (Value.int IntKind.i64 sv))
            (first | exact ⟨s0, s1, s2, s3, u0, u1, u2⟩ | exact ⟨d0, d1, d2, d3, v0, v1, v2⟩)
            (first
              | (go_simp; go_at_call 24; refine (HTv _).out.mono ?_; rintro e w7 ⟨rfl, hb⟩; have d0 := (hb.cell (p := ⟨gW, j * 4, none⟩) hzr).trans s0; have d1 := (hb.cell (p := ⟨gW, j * 4 + 1, none⟩) hzr).trans s1; have d2 := (hb.cell (p := ⟨gW, j * 4 + 2, none⟩) hzr).trans s2; have d3 := (hb.cell (p := ⟨gW, j * 4 + 3, none⟩) hzr).trans s3; have v0 := (hb.cell (p := ⟨g', j * 3, none⟩) hzr').trans u0; have v1 := (hb.cell (p := ⟨g', j * 3 + 1, none⟩) hzr').trans u1; have v2 := (hb.cell (p := ⟨g', j * 3 + 2, none⟩) hzr').trans u2; go_simp))
          have hB2 := below_then hB.drew HBz hb
          clear hb d0 d1 d2 d3 v0 v1 v2 HTv hNe s0 s1 s2 s3 u0 u1 u2 hB
          go_wp2_with fail
          go_roundw
          case rel => exact ⟨j + 1, by omega, by go_num, hB2⟩
          case measure => simp [intOf]; omega
        · obtain rfl : j = m := by omega
          have hF := below_then HT4.out.below HT4.out.size hB
          clear HT4 hB
          go_wp2_with fail
          go_ret
          exact ⟨rfl, hF⟩

end Go.Proofs.Ythkolpjbkbcmbaa.K
