/- The walks of stretch, Diff and Equal. -/
import Derived.Test.YthkolpjbkbcmbaaDiffM
import Derived.Test.YthkolpjbkbcmbaaRefSpans
import Derived.Deep.CutBlock
import Derived.Deep.CutRange
set_option linter.unusedVariables false
set_option linter.unusedSimpArgs false
namespace Go.Proofs.Ythkolpjbkbcmbaa
open Go.RowKit

/-! ### Rows of rooms -/
def flatM : List Rm → List Value
  | [] => []
  | s :: l => .int .u64 s.lo :: .int .u64 s.hi :: flatM l
theorem flatM_length (l : List Rm) : (flatM l).length = l.length * 2 := by
  induction l with
  | nil => rfl
  | cons s l ih => simp only [flatM, List.length_cons, ih]; omega
theorem flatM_append (l m : List Rm) : flatM (l ++ m) = flatM l ++ flatM m := by
  induction l with
  | nil => rfl
  | cons s l ih => simp only [List.cons_append, flatM, ih]
theorem flatM_at (l : List Rm) : ∀ (i : Nat) (s : Rm), l[i]? = some s → (flatM l)[i * 2]? = some (.int .u64 s.lo) ∧ (flatM l)[i * 2 + 1]? = some (.int .u64 s.hi) := by
  induction l with
  | nil => intro i s h; simp at h
  | cons s l ih =>
    intro i t h
    cases i with
    | zero =>
      obtain rfl : s = t := by simpa using h
      exact ⟨rfl, rfl⟩
    | succ i =>
      have e : (i + 1) * 2 = i * 2 + 2 := by omega
      have := ih i t (by simpa using h)
      rw [e]
      simpa [flatM] using this
theorem flatM_set_last (l : List Rm) (t : Rm) (h : Int) : (flatM (l ++ [t])).set (l.length * 2 + 1) (.int .u64 h) = flatM (l ++ [⟨t.lo, h, t.v⟩]) := by
  rw [flatM_append, flatM_append, ← flatM_length, List.set_append_right _ _ (by omega)]
  have e : (flatM l).length + 1 - (flatM l).length = 1 := by omega
  rw [e]
  rfl

def RowM (w : World) (base : Nat) (v : Value) (l : List Rm) : Prop := w.ownsRow base 90 2 v l.length (flatM l)
theorem info90 : (Try.prog.info? 90).map (fun i => (i.zero, i.size, i.bytes)) = some (some (.agg #[.int .u64 0, .int .u64 0]), 2, 16) := by kernel_rfl
theorem RowM.nil (w : World) (base : Nat) : RowM w base (.slice none 0 0) [] := World.ownsRow_nil w base 90 2
theorem RowM.alloc {w : World} {base : Nat} {v : Value} {l : List Rm} (h : RowM w base v l) (o : Obj) : RowM (w.alloc o) base v l := World.ownsRow.alloc h o
theorem RowM.grown {w w' : World} {base : Nat} {v : Value} {l : List Rm} (h : RowM w base v l) {row : Option Nat} (hg : w.grownBy w' row) (hne : v.ownBlock = none ∨ v.ownBlock ≠ row) : RowM w' base v l := World.ownsRow.kept h hg hne
theorem RowM.below {w w' : World} {base : Nat} {v : Value} {l : List Rm} (h : RowM w base v l) (hb : Below w.heap.size w w') : RowM w' base v l :=
  h.grown (grown_below hb none) (by cases v.ownBlock <;> simp)
theorem RowM.mono {w : World} {B B' : Nat} {v : Value} {l : List Rm} (h : RowM w B v l) (hb : B' ≤ B) : RowM w B' v l :=
  ⟨h.1, h.2.imp id fun ⟨g, cap, cur, e1, e2, e3⟩ => ⟨g, cap, cur, e1, Nat.le_trans hb e2, e3⟩⟩
theorem RowM.read {w : World} {base : Nat} {v : Value} {l : List Rm} (h : RowM w base v l) : ∃ A c, v = .slice A l.length c ∧
    ∀ i s, l[i]? = some s → ∃ g, A = some ⟨g, 0, none⟩ ∧ base ≤ g ∧ g < w.heap.size ∧ w.cell? ⟨g, i * 2, none⟩ = some (.int .u64 s.lo) ∧ w.cell? ⟨g, i * 2 + 1, none⟩ = some (.int .u64 s.hi) ∧
      w.frozen? ⟨g, i * 2 + 1, none⟩ = false := by
  obtain ⟨A, c, rfl⟩ := own_slice h
  refine ⟨A, c, rfl, fun i s hs => ?_⟩
  have hi : i < l.length := (List.getElem?_eq_some_iff.1 hs).1
  obtain ⟨g, cap, hv, hgb, hgl⟩ := World.ownsRow.form h (by omega)
  injection hv with hA hn hc
  subst hA
  subst hc
  obtain ⟨f0, f1⟩ := flatM_at l i s hs
  refine ⟨g, rfl, hgb, hgl, ?_, ?_, World.ownsRow.frozenAt h _⟩
  · rw [World.ownsRow.cellAt h _ (by omega)]; exact f0
  · rw [World.ownsRow.cellAt h _ (by omega)]; exact f1

/-- 'append' of one room: it lies in a block of its own, laid just ahead. -/
theorem app_room {ops : Array Oper} {rest : List Oper} {o : Oper} {a : Act} {Q : Exit → Act → World → Prop} {W w0 : World} (B : Nat) (hgd : o.guard = none) (s x : Operand)
    (ho : o.op = .call { callee := .builtin .append, args := #[s, x], argTypes := #[87, 87] })
    (v : Value) (l : List Rm) (lo hi : Int) (hs : a.eval s = v) {H : Nat} (hx : a.eval x = .slice (some ⟨H, 0, none⟩) 1 1) (hH : W.heap.size = H)
    (HO : RowM W B v l) (hl : l.length ≤ 2000000000) (hb : Below B w0 W) (hB : B ≤ W.heap.size)
    (h : ∀ v' w', RowM w' B v' (l ++ [⟨lo, hi, ()⟩]) → Below B w0 w' → B ≤ w'.heap.size → wpList Try.prog ops Q rest (a.put o.dst v') w') :
    wpList Try.prog ops Q (o :: rest) a (W.alloc (.cells #[.int .u64 lo, .int .u64 hi] 90)) := by
  subst hH
  obtain ⟨i0, hi0, hz0, hz1, hz2⟩ := info_parts info90
  refine wpList_append_own_at (W.alloc _) hgd s x 87 ho B 90 i0 _ 2 16 Try.underlying87 hi0 hz0 hz1 hz2 rfl (by omega) v l.length (flatM l) hs (World.ownsRow.alloc HO _) ⟨W.heap.size, 0, none⟩ 1 1
    [.int .u64 lo, .int .u64 hi] hx rfl (World.news_of_block (cs := #[.int .u64 lo, .int .u64 hi]) (t := 90) (fr := (0, 0)) (heap_alloc_new W _))
    (by simp [Value.oneCell']) (by simp only [maxLen]; omega) (by omega) (by simp; omega) ?_
  intro v1 w1 hown hg _ hat
  refine h v1 w1 ?_ ((hb.alloc hB _).grown hg (by simp; omega) (fun k hk => (World.ownsRow.lt HO k hk).1)) ?_
  · unfold RowM
    rw [flatM_append, List.length_append]
    exact hown
  · have := hg.size
    simp at this
    omega

/-- The last room's end is written anew. -/
theorem RowM.grow_last {w w0 : World} {B : Nat} {g c : Nat} {m : List Rm} {t : Rm} (h : RowM w B (.slice (some ⟨g, 0, none⟩) (m.length + 1) c) (m ++ [t])) (hi : Int) (hb : Below B w0 w) (hB : B ≤ w.heap.size) :
    RowM (w.setCell ⟨g, m.length * 2 + 1, none⟩ (.int .u64 hi)) B (.slice (some ⟨g, 0, none⟩) (m.length + 1) c) (m ++ [⟨t.lo, hi, t.v⟩]) ∧ Below B w0 (w.setCell ⟨g, m.length * 2 + 1, none⟩ (.int .u64 hi)) ∧ B ≤ (w.setCell ⟨g, m.length * 2 + 1, none⟩ (.int .u64 hi)).heap.size := by
  have hown : w.ownsRow B 90 2 (.slice (some ⟨g, 0, none⟩) (m.length + 1) c) (m.length + 1) (flatM (m ++ [t])) := by
    unfold RowM at h
    simpa using h
  have hs := hown.stored (m.length * 2 + 1) (.int .u64 hi)
  refine ⟨?_, hb.grown hs.2 hB (fun k hk => (World.ownsRow.lt h k hk).1), by have := hs.2.size; omega⟩
  have := hs.1
  rw [flatM_set_last] at this
  unfold RowM
  simpa using this

/-- A map, or none at all. -/
def MapOpt (w : World) (q : Option Addr) (L : List S) : Prop := (q = none ∧ L = []) ∨ ∃ p, q = some ⟨p, 0, none⟩ ∧ MapAt w 0 p L
theorem MapOpt.below {w w' : World} {q : Option Addr} {L : List S} (h : MapOpt w q L) (hb : Below w.heap.size w w') : MapOpt w' q L :=
  h.imp id fun ⟨p, e, hM⟩ => ⟨p, e, hM.below hb⟩

/-- What stretch answers. -/
def StOut (w : World) (L : List S) (k : Int) (e : Ending) (w' : World) : Prop :=
  ∃ en, e = .returned (.tuple #[.int .i64 ((val L k).getD 0), .bool (val L k).isSome, .int .u64 en]) ∧ Stretch L k en ∧ Below w.heap.size w w'

set_option maxRecDepth 100000 in
set_option maxHeartbeats 1000000 in
theorem stretch_nil (w : World) (k : Int) (ht : k ≤ M.top) : Calls Try.prog 65 #[.pointer none, .int .u64 k] w (StOut w [] k) := by
  obtain ⟨h1, h2⟩ := stretch_none (L := []) M.WF.nil ht rfl
  have H1 := Lib.hid h1
  clear h1
  unfold StOut
  rw [h2]
  clear h2
  go_enter Try.func65, Try.ntmps65
  go_wp2_with fail
  refine bodyPost_ret (v := .tuple #[.int .i64 0, .bool false, .int .u64 18446744073709551615]) (by simp [results, Try.results65, go_sem]) rfl ?_
  exact ⟨_, rfl, H1.out, Below.refl _ _⟩

set_option maxRecDepth 100000 in
set_option maxHeartbeats 1000000 in
theorem stretch_map (w : World) (p : Nat) (L : List S) (k : Int) (hM : MapAt w 0 p L) (hW : M.WF L) (hL : L.length ≤ 1000000000) (hk0 : 0 ≤ k) (ht : k ≤ M.top) :
    Calls Try.prog 65 #[.pointer (some ⟨p, 0, none⟩), .int .u64 k] w (StOut w L k) := by
  have HN := Lib.hid (next_calls w 0 p L k hM hW hL)
  unfold StOut
  cases hx : nxt L k with
  | none =>
    obtain ⟨h1, h2⟩ := stretch_none hW ht hx
    have H1 := Lib.hid h1
    rw [h2]
    rw [hx] at HN
    clear h1 h2 hx hM hW
    go_enter Try.func65, Try.ntmps65
    go_wp2_with fail
    refine HN.out.mono ?_
    rintro e w' ⟨rfl, hb⟩
    dsimp only [sp, Option.getD_none, Option.isSome_none]
    have hz := hb.size
    clear HN
    go_wp2_with fail
    refine bodyPost_ret (v := .tuple #[.int .i64 0, .bool false, .int .u64 18446744073709551615]) (by simp [results, Try.results65, go_sem]) rfl ?_
    exact ⟨_, rfl, H1.out, hb.alloc hz _⟩
  | some s =>
    obtain ⟨y0, hs⟩ := nxt_some_hi hW hx
    have hok := hW.1 s hs
    have y1 := hok.1
    have y2 := hok.2.1
    have y3 : s.hi ≤ 18446744073709551615 := hok.2.2
    by_cases hk : k < s.lo
    · obtain ⟨h1, h2⟩ := stretch_gap hW hx hk
      have qw : IntKind.u64.wrap (s.lo - 1) = s.lo - 1 := by rw [IntKind.wrap_u64]; omega
      have H1 := Lib.hid h1
      rw [h2]
      rw [hx] at HN
      clear h1 h2 hx hM hW hok hs
      go_enter Try.func65, Try.ntmps65
      go_wp2_with fail
      refine HN.out.mono ?_
      rintro e w' ⟨rfl, hb⟩
      dsimp only [sp, Option.getD_some, Option.isSome_some]
      have hz := hb.size
      clear HN
      go_wp2_with fail
      go_quiet (fail)
      go_wp2_with fail
      refine bodyPost_ret (v := .tuple #[.int .i64 0, .bool false, .int .u64 (s.lo - 1)]) (by simp [results, Try.results65, go_sem]) rfl ?_
      exact ⟨_, rfl, H1.out, below_drewN (hb.alloc hz _) _⟩
    · obtain ⟨h1, h2⟩ := stretch_in hW hx hk
      have H1 := Lib.hid h1
      rw [h2]
      rw [hx] at HN
      clear h1 h2 hx hM hW hok hs
      go_enter Try.func65, Try.ntmps65
      go_wp2_with fail
      refine HN.out.mono ?_
      rintro e w' ⟨rfl, hb⟩
      dsimp only [sp, Option.getD_some, Option.isSome_some]
      have hz := hb.size
      clear HN
      go_wp2_with fail
      go_quiet (fail)
      go_wp2_with fail
      refine bodyPost_ret (v := .tuple #[.int .i64 s.v, .bool true, .int .u64 s.hi]) (by simp [results, Try.results65, go_sem]) rfl ?_
      exact ⟨_, rfl, H1.out, below_drewN (hb.alloc hz _) _⟩

theorem stretch_calls (w : World) (q : Option Addr) (L : List S) (k : Int) (hM : MapOpt w q L) (hW : M.WF L) (hL : L.length ≤ 1000000000) (hk0 : 0 ≤ k) (ht : k ≤ M.top) :
    Calls Try.prog 65 #[.pointer q, .int .u64 k] w (StOut w L k) := by
  rcases hM with ⟨rfl, rfl⟩ | ⟨p, rfl, hM⟩
  · exact stretch_nil w k ht
  · exact stretch_map w p L k hM hW hL hk0 ht

/-- What Diff answers. -/
def DiffOut (w : World) (L1 L2 : List S) (e : Ending) (w' : World) : Prop :=
  ∃ v l, e = .returned v ∧ RowM w' w.heap.size v l ∧ IsDiff (val L1) (val L2) l ∧ l.length ≤ 2 * L1.length + 2 * L2.length + 1 ∧ Below w.heap.size w w'

theorem sat_neq {a b : Option Int} : a = b ↔ (a.isSome = b.isSome ∧ a.getD 0 = b.getD 0) := by
  cases a <;> cases b <;> simp

set_option maxRecDepth 100000 in
set_option maxHeartbeats 4000000 in
theorem diff_calls (w : World) (q1 q2 : Option Addr) (L1 L2 : List S) (hM1 : MapOpt w q1 L1) (hM2 : MapOpt w q2 L2) (hW1 : M.WF L1) (hW2 : M.WF L2) (hL1 : L1.length ≤ 200000000) (hL2 : L2.length ≤ 200000000) :
    Calls Try.prog 48 #[.pointer q1, .pointer q2] w (DiffOut w L1 L2) := by
  have HS1 := fun W k (hb : Below w.heap.size w W) (h0 : 0 ≤ k) (ht : k ≤ M.top) => Lib.hid (stretch_calls W q1 L1 k (hM1.below hb) hW1 (by omega) h0 ht)
  have HS2 := fun W k (hb : Below w.heap.size w W) (h0 : 0 ≤ k) (ht : k ≤ M.top) => Lib.hid (stretch_calls W q2 L2 k (hM2.below hb) hW2 (by omega) h0 ht)
  have hc1 := fun k => cnt_le L1 k
  have hc2 := fun k => cnt_le L2 k
  clear hM1 hM2 hW1 hW2
  go_enter Try.func48, Try.ntmps48
  go_wp2_with fail
  go_loopw [5, 6] (fun o kk wr => ∃ (k : Int) (l : List Rm), kk = .int .u64 k ∧ 0 ≤ k ∧ k ≤ 18446744073709551615 ∧ RowM wr w.heap.size o l ∧ Hid (GotK (part2 (val L1) (val L2)) k l) ∧ Hid (l.length ≤ cnt L1 k + cnt L2 k) ∧ Below w.heap.size w wr ∧ w.heap.size ≤ wr.heap.size) (fun _ kk _ => (18446744073709551616 - intOf kk).toNat)
  case atStart => exact ⟨0, [], rfl, by omega, by omega, RowM.nil _ _, GotK.start, Nat.zero_le _, Below.refl _ _, Nat.le_refl _⟩
  case round =>
    obtain ⟨k, l, rfl, k0, k1, hR, HG, HC, hB, hBz⟩ := hrel
    have hll : l.length ≤ 900000000 := by have h := HC.out; have := hc1 k; have := hc2 k; omega
    have h1 := HS1 wr k hB k0 k1
    go_wp2_with fail
    refine h1.out.mono ?_
    rintro e w1 ⟨e1, rfl, hs1, hb1⟩
    have hB1 := below_then hB hBz hb1
    have hb1z := hb1.size
    have hR1 := hR.below hb1
    have h2 := HS2 w1 k hB1 k0 k1
    clear h1 hb1 hB hR
    go_wp2_with fail
    refine h2.out.mono ?_
    rintro e w2 ⟨e2, rfl, hs2, hb2⟩
    have hB2 := below_then hB1 (by omega) hb2
    have hb2z := hb2.size
    have hR2 := hR1.below hb2
    have ht1 : e1 ≤ 18446744073709551615 := hs1.top
    have ht2 : e2 ≤ 18446744073709551615 := hs2.top
    have hk1 := hs1.le
    have hk2 := hs2.le
    have H1 := Lib.hid hs1
    have H2 := Lib.hid hs2
    clear h2 hs1 hs2 hB1 hR1 hb2
    obtain ⟨la, hla⟩ : ∃ la, la = if e1 < e2 then e1 else e2 := ⟨_, rfl⟩
    have la0 : k ≤ la ∧ la ≤ e1 ∧ la ≤ e2 ∧ (la = e1 ∨ la = e2) := by rw [hla]; split <;> omega
    have la1 : k ≤ la := la0.1
    have la2 : la ≤ 18446744073709551615 := by omega
    have HF := Lib.hid (show ∀ x, k ≤ x → x ≤ la → val L1 x = val L1 k ∧ val L2 x = val L2 k from fun x a b => ⟨H1.out.same x a (by omega), H2.out.same x a (by omega)⟩)
    have HC2 := Lib.hid (show l.length ≤ cnt L1 k + cnt L2 k ∧ (la = M.top ∨ l.length + 1 ≤ cnt L1 (la + 1) + cnt L2 (la + 1)) by
      refine ⟨HC.out, ?_⟩
      have m1 := cnt_mono L1 (show k ≤ la + 1 by omega)
      have m2 := cnt_mono L2 (show k ≤ la + 1 by omega)
      have := HC.out
      rcases la0.2.2.2 with e | e
      · rcases H1.out.more with h | h
        · exact .inl (e.trans h)
        · right; rw [e] at m2 ⊢; omega
      · rcases H2.out.more with h | h
        · exact .inl (e.trans h)
        · right; rw [e] at m1 ⊢; omega)
    have HRR := Lib.hid hR2
    have HBB := Lib.hid hB2
    have hz2 : w.heap.size ≤ w2.heap.size := by omega
    have HLA := Lib.hid hla
    clear H1 H2 HS1 HS2 HC hc1 hc2 la0 hR2 hB2 hb1z hb2z hBz
    go_upto_region 6 with fail
    rw [← HLA.out]
    clear hla HLA
    go_cut [38] from 14 to 70 (fun c wx => ∃ bb : Bool, c = .bool bb ∧ (bb = true ↔ val L1 k ≠ val L2 k) ∧ wx = w2)
    case first =>
      by_cases h1 : (val L1 k).isSome = (val L2 k).isSome
      · by_cases h2 : (val L1 k).getD 0 = (val L2 k).getD 0
        · have HD := Lib.hid (show false = true ↔ val L1 k ≠ val L2 k by simp; exact sat_neq.2 ⟨h1, h2⟩)
          have q1 : ((val L1 k).getD 0 != (val L2 k).getD 0) = false := by simpa using h2
          have q2 : (!(val L1 k).isSome == (val L2 k).isSome) = false := by simpa using h1
          clear h1 h2
          go_wp2_with fail
          go_meet
          exact ⟨_, rfl, by simpa using HD.out, rfl⟩
        · have HD := Lib.hid (show true = true ↔ val L1 k ≠ val L2 k by simp; exact fun e => h2 (sat_neq.1 e).2)
          have q1 : ((val L1 k).getD 0 != (val L2 k).getD 0) = true := by simpa using h2
          have q2 : (!(val L1 k).isSome == (val L2 k).isSome) = false := by simpa using h1
          clear h1 h2
          go_wp2_with fail
          go_meet
          exact ⟨_, rfl, by simpa using HD.out, rfl⟩
      · have HD := Lib.hid (show true = true ↔ val L1 k ≠ val L2 k by simp; exact fun e => h1 (sat_neq.1 e).1)
        have q2 : (!(val L1 k).isSome == (val L2 k).isSome) = true := by simpa using h1
        clear h1
        go_wp2_with fail
        go_meet
        exact ⟨_, rfl, by simpa using HD.out, rfl⟩
    case rest =>
      obtain ⟨bb, rfl, hbb, hww⟩ := hcut
      subst hww
      have HBD := Lib.hid hbb
      clear hbb
      go_upto_if 38 with fail
      go_cut [5] from 14 to 70 (fun v wx => ∃ l', RowM wx w.heap.size v l' ∧ Hid (GotK (part2 (val L1) (val L2)) (la + 1) l') ∧ l'.length ≤ l.length + 1 ∧ Below w.heap.size w wx ∧ w.heap.size ≤ wx.heap.size)
      case first =>
        cases bb with
        | false =>
          have hd : val L1 k = val L2 k := by have h := HBD.out; simpa using h
          have HG2 := Lib.hid (HG.out.skip la1 (fun x a b => by unfold part2; rw [(HF.out x a b).1, (HF.out x a b).2, if_pos hd]))
          clear hd
          go_wp2_with fail
          go_meet
          exact ⟨l, HRR.out, HG2.out, by omega, HBB.out, hz2⟩
        | true =>
          have hd : ¬ val L1 k = val L2 k := by have h := HBD.out; simpa using h
          have HG2 := Lib.hid (HG.out.add (v := ()) k0 la1 la2 (fun x a b => by unfold part2; rw [(HF.out x a b).1, (HF.out x a b).2, if_neg hd]))
          have hlow : ∀ t ∈ l, t.hi < k := HG.out.2.1
          have hlok : ∀ t ∈ l, 0 ≤ t.hi := fun t ht => by have := HG.out.1.1 t ht; unfold M.Sp.ok at this; omega
          clear hd HG HF HC2
          rcases M.snoc_cases l with rfl | ⟨m, t, rfl⟩
          · obtain ⟨Ar, cr, hv, _⟩ := HRR.out.read
            subst hv
            rw [M.join_nil] at HG2
            go_wp2_with (at_builtin; (refine app_room w.heap.size rfl (.tmp 60) (.tmp 64) rfl _ [] k la rfl rfl (by simp) HRR.out (by simp) HBB.out hz2 ?_); intro v' w' hR' hB' hz')
            go_meet
            exact ⟨_, hR', HG2.out, by simp, hB', hz'⟩
          · have hlen : (m ++ [t]).length = m.length + 1 := by simp
            obtain ⟨Ar, cr, hv, hread⟩ := HRR.out.read
            subst hv
            obtain ⟨gr, rfl, hbg, hgrl, r0, r1, rf⟩ := hread m.length t (by simp)
            have ha := hlow t (by simp)
            have hb0 := hlok t (by simp)
            clear hread hlow hlok
            rw [M.join_snoc] at HG2
            rw [hlen] at HRR hll ⊢
            have HGL := fun (hi : Int) W (h : RowM W w.heap.size (.slice (some ⟨gr, 0, none⟩) (m.length + 1) cr) (m ++ [t])) (hb : Below w.heap.size w W) (hB : w.heap.size ≤ W.heap.size) => Lib.hid (h.grow_last hi hb hB)
            have HLL := Lib.hid hlen
            clear hlen
            generalize hml : m.length = ml at *
            have HML := Lib.hid hml
            clear hml
            have q0 : (0 : Int) < (ml : Int) + 1 := by omega
            by_cases hjv : t.hi + 1 = k
            · rw [if_pos ⟨hjv, rfl⟩] at HG2
              have p2 : (t.hi + 1 == k) = true := by simpa using hjv
              have HGR := HGL la wc HRR.out HBB.out hz2
              clear hjv HGL
              go_wp2_with fail
              go_meet
              exact ⟨_, HGR.out.1, HG2.out, by simp [HML.out], HGR.out.2.1, HGR.out.2.2⟩
            · rw [if_neg (fun h => hjv h.1)] at HG2
              have p2 : (t.hi + 1 == k) = false := by simpa using hjv
              clear hjv HGL
              go_wp2_with (at_builtin; (refine app_room w.heap.size rfl (.tmp 60) (.tmp 64) rfl _ (m ++ [t]) k la rfl rfl (by simp) HRR.out (by rw [HLL.out]; omega) HBB.out hz2 ?_); intro v' w' hR' hB' hz')
              go_meet
              exact ⟨_, hR', HG2.out, by simp [HML.out], hB', hz'⟩
      case rest =>
        obtain ⟨l', hR', HG', hl', hB', hz'⟩ := hcut
        have HR' := Lib.hid hR'
        have HB' := Lib.hid hB'
        clear hR' hB' HRR HBB HG HF
        by_cases hla : la = 18446744073709551615
        · have q : (la == 18446744073709551615) = true := by simpa using hla
          have HD := Lib.hid (show IsDiff (val L1) (val L2) l' ∧ l'.length ≤ 2 * L1.length + 2 * L2.length + 1 by
            refine ⟨GotK.diff (by have h := HG'.out; rw [hla] at h; exact h), ?_⟩
            have := HC2.out.1
            have := cnt_le L1 k
            have := cnt_le L2 k
            omega)
          clear hla
          go_wp2_with fail
          go_ret
          exact ⟨_, l', rfl, HR'.out, HD.out.1, HD.out.2, HB'.out⟩
        · have q : (la == 18446744073709551615) = false := by simpa using hla
          have HC3 := Lib.hid (show l'.length ≤ cnt L1 (la + 1) + cnt L2 (la + 1) by
            rcases HC2.out.2 with h | h
            · exact absurd h hla
            · omega)
          have la3 : la ≤ 18446744073709551614 := by omega
          have qw : IntKind.u64.wrap (la + 1) = la + 1 := by rw [IntKind.wrap_u64]; omega
          clear hla
          go_wp2_with fail
          go_roundw
          case rel => exact ⟨la + 1, l', rfl, by omega, by omega, HR'.out, HG'.out, HC3.out, HB'.out, hz'⟩
          case measure => simp only [intOf]; omega

/-- Equal: there is no key at which they part. -/
theorem equal_calls (w : World) (q1 q2 : Option Addr) (L1 L2 : List S) (hM1 : MapOpt w q1 L1) (hM2 : MapOpt w q2 L2) (hW1 : M.WF L1) (hW2 : M.WF L2) (hL1 : L1.length ≤ 200000000) (hL2 : L2.length ≤ 200000000) :
    Calls Try.prog 47 #[.pointer q1, .pointer q2] w fun e w' => ∃ l, IsDiff (val L1) (val L2) l ∧ e = .returned (.bool ((l.length : Int) == 0)) ∧ Below w.heap.size w w' := by
  have HD := Lib.hid (diff_calls w q1 q2 L1 L2 hM1 hM2 hW1 hW2 hL1 hL2)
  clear hM1 hM2 hW1 hW2
  go_enter Try.func47, Try.ntmps47
  go_wp2_with fail
  refine HD.out.mono ?_
  rintro e w1 ⟨v, l, rfl, hR, hD, hl, hb⟩
  obtain ⟨A, c, rfl, _⟩ := hR.read
  have HI := Lib.hid hD
  have HB := Lib.hid hb
  clear hR hD hb HD
  go_wp2_with fail
  go_ret
  exact ⟨l, HI.out, rfl, HB.out⟩

end Go.Proofs.Ythkolpjbkbcmbaa
