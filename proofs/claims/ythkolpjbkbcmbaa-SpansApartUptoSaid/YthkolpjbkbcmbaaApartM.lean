/- SpansApart: rows of calls, cleared; appends that keep the slice onto which they go; a row written full. -/
import Derived.Test.YthkolpjbkbcmbaaSameM
set_option linter.unusedVariables false
set_option linter.unusedSimpArgs false
namespace Go.Proofs.Ythkolpjbkbcmbaa
open Go.RowKit

/-! ### Rows of calls -/
def flatO : List Opn → List Value
  | [] => []
  | o :: l => .int .i64 o.kind :: .int .u64 o.lo :: .int .u64 o.hi :: .int .i64 o.val :: flatO l
theorem flatO_length (l : List Opn) : (flatO l).length = l.length * 4 := by
  induction l with
  | nil => rfl
  | cons s l ih => simp only [flatO, List.length_cons, ih]; omega
theorem flatO_append (l m : List Opn) : flatO (l ++ m) = flatO l ++ flatO m := by
  induction l with
  | nil => rfl
  | cons s l ih => simp only [List.cons_append, flatO, ih]
theorem flatO_at (l : List Opn) : ∀ (i : Nat) (s : Opn), l[i]? = some s → (flatO l)[i * 4]? = some (.int .i64 s.kind) ∧ (flatO l)[i * 4 + 1]? = some (.int .u64 s.lo) ∧ (flatO l)[i * 4 + 2]? = some (.int .u64 s.hi) ∧ (flatO l)[i * 4 + 3]? = some (.int .i64 s.val) := by
  induction l with
  | nil => intro i s h; simp at h
  | cons s l ih =>
    intro i t h
    cases i with
    | zero =>
      obtain rfl : s = t := by simpa using h
      exact ⟨rfl, rfl, rfl, rfl⟩
    | succ i =>
      have e : (i + 1) * 4 = i * 4 + 4 := by omega
      have := ih i t (by simpa using h)
      rw [e]
      simpa [flatO] using this
theorem flatO_one (l : List Opn) : ∀ v ∈ flatO l, v.oneCell' = true := by
  induction l with
  | nil => simp [flatO]
  | cons s l ih => intro v hv; simp only [flatO, List.mem_cons] at hv; rcases hv with rfl | rfl | rfl | rfl | hv <;> first | rfl | exact ih v hv
theorem flatO_get (l : List Opn) : ∀ (j : Nat) (u : Value), (flatO l)[j]? = some u → ∃ i o, l[i]? = some o ∧ ((j = i * 4 ∧ u = .int .i64 o.kind) ∨ (j = i * 4 + 1 ∧ u = .int .u64 o.lo) ∨ (j = i * 4 + 2 ∧ u = .int .u64 o.hi) ∨ (j = i * 4 + 3 ∧ u = .int .i64 o.val)) := by
  intro j u h
  have hj : j < l.length * 4 := by rw [← flatO_length]; exact (List.getElem?_eq_some_iff.1 h).1
  obtain ⟨o, ho⟩ : ∃ o, l[j / 4]? = some o := ⟨_, List.getElem?_eq_getElem (by omega)⟩
  obtain ⟨f0, f1, f2, f3⟩ := flatO_at l _ o ho
  refine ⟨j / 4, o, ho, ?_⟩
  have hm : j = j / 4 * 4 ∨ j = j / 4 * 4 + 1 ∨ j = j / 4 * 4 + 2 ∨ j = j / 4 * 4 + 3 := by omega
  rcases hm with e | e | e | e
  · refine .inl ⟨e, ?_⟩; rw [← e, h] at f0; injection f0
  · refine .inr (.inl ⟨e, ?_⟩); rw [← e, h] at f1; injection f1
  · refine .inr (.inr (.inl ⟨e, ?_⟩)); rw [← e, h] at f2; injection f2
  · refine .inr (.inr (.inr ⟨e, ?_⟩)); rw [← e, h] at f3; injection f3

def RowO (w : World) (base : Nat) (v : Value) (l : List Opn) : Prop := w.ownsRow base 29 4 v l.length (flatO l)
theorem info29 : (Try.prog.info? 29).map (fun i => (i.zero, i.size, i.bytes)) = some (some (.agg #[.int .i64 0, .int .u64 0, .int .u64 0, .int .i64 0]), 4, 32) := by kernel_rfl
theorem RowO.nil (w : World) (base : Nat) : RowO w base (.slice none 0 0) [] := World.ownsRow_nil w base 29 4
theorem RowO.alloc {w : World} {base : Nat} {v : Value} {l : List Opn} (h : RowO w base v l) (o : Obj) : RowO (w.alloc o) base v l := World.ownsRow.alloc h o
theorem RowO.grown {w w' : World} {base : Nat} {v : Value} {l : List Opn} (h : RowO w base v l) {row : Option Nat} (hg : w.grownBy w' row) (hne : v.ownBlock = none ∨ v.ownBlock ≠ row) : RowO w' base v l := World.ownsRow.kept h hg hne
theorem RowO.below {w w' : World} {base : Nat} {v : Value} {l : List Opn} (h : RowO w base v l) (hb : Below w.heap.size w w') : RowO w' base v l :=
  h.grown (grown_below hb none) (by cases v.ownBlock <;> simp)

/-- A script, and where it lies. -/
def Src (A : Option Addr) (n c : Nat) : Prop := (A = none ∧ n = 0 ∧ c = 0) ∨ ∃ a, A = some a

/-- A row of calls reads as a script. -/
theorem RowO.script {w : World} {base : Nat} {v : Value} {l : List Opn} (h : RowO w base v l) (hok : ∀ o ∈ l, o.ok) : ∃ A c, v = .slice A l.length c ∧ Script w A c l ∧ Src A l.length c := by
  obtain ⟨A, c, rfl⟩ := own_slice h
  have hc : l.length ≤ c ∧ c ≤ 9223372036854775807 := by
    rcases h.2 with ⟨h1, h2⟩ | ⟨_, _, _, h1, _, _, h2, h3, _⟩
    · injection h1 with _ _ h1; omega
    · injection h1 with _ _ h1; subst h1; unfold maxLen at h3; exact ⟨h2, by omega⟩
  refine ⟨A, c, rfl, ⟨hc.1, hc.2, hok, fun i s hs => ?_⟩, ?_⟩
  · have hi : i < l.length := (List.getElem?_eq_some_iff.1 hs).1
    obtain ⟨g, cap, hv, hgb, hgl⟩ := World.ownsRow.form h (by omega)
    injection hv with hA hn hc
    subst hA
    subst hc
    obtain ⟨f0, f1, f2, f3⟩ := flatO_at l i s hs
    refine ⟨g, 0, rfl, hgl, ?_, ?_, ?_, ?_⟩ <;> rw [Nat.zero_add]
    · rw [World.ownsRow.cellAt h _ (by omega)]; exact f0
    · rw [World.ownsRow.cellAt h _ (by omega)]; exact f1
    · rw [World.ownsRow.cellAt h _ (by omega)]; exact f2
    · rw [World.ownsRow.cellAt h _ (by omega)]; exact f3
  · rcases h.2 with ⟨h1, h2⟩ | ⟨g, cap, cur, h1, _⟩
    · injection h1 with e1 e2 e3; exact .inl ⟨e1, h2, e3⟩
    · injection h1 with e1 e2 e3; exact .inr ⟨_, e1⟩

/-- 'append' of a whole script to a row of one's own. -/
theorem app_ops {ops : Array Oper} {rest : List Oper} {o : Oper} {a : Act} {Q : Exit → Act → World → Prop} {W w0 : World} (B : Nat) (hgd : o.guard = none) (s x : Operand)
    (ho : o.op = .call { callee := .builtin .append, args := #[s, x], argTypes := #[22, 22] })
    (v : Value) (l m : List Opn) (n c : Nat) (A : Option Addr) (hs : a.eval s = v) (hx : a.eval x = .slice A n c)
    (HO : RowO W B v l) (HS : Script W A c m) (hSrc : Src A n c) (hn : m.length = n) (hl : l.length + n ≤ 2000000000) (hb : Below B w0 W) (hB : B ≤ W.heap.size)
    (h : ∀ v' w', RowO w' B v' (l ++ m) → Below B w0 w' → B ≤ w'.heap.size → wpList Try.prog ops Q rest (a.put o.dst v') w') :
    wpList Try.prog ops Q (o :: rest) a W := by
  obtain ⟨i0, hi0, hz0, hz1, hz2⟩ := info_parts info29
  rcases hSrc with ⟨rfl, hn', rfl⟩ | ⟨ad, rfl⟩
  · have e : m = [] := List.eq_nil_of_length_eq_zero (hn.trans hn')
    have HO' : RowO W B v (l ++ m) := by rw [e, List.append_nil]; exact HO
    clear hn HS e hl
    rw [hn'] at hx
    refine wpList_append_own_none (P := Try.prog) hgd s x 22 ho B 29 i0 4 Try.underlying22 hi0 v l.length (flatO l) hs HO hx ?_
    exact h v W HO' hb hB
  · subst hn
    refine wpList_append_own_at W hgd s x 22 ho B 29 i0 _ 4 32 Try.underlying22 hi0 hz0 hz1 hz2 rfl (by omega) v l.length (flatO l) hs HO ad m.length c (flatO m) hx (flatO_length m) ?_ (flatO_one m) (by simp only [maxLen]; omega) (by omega) hB ?_
    · intro j u hj
      obtain ⟨i, o', ho', hc⟩ := flatO_get m j u hj
      obtain ⟨b, off, e, _, c0, c1, c2, c3⟩ := HS.2.2.2 i o' ho'
      obtain rfl : ad = ⟨b, off, none⟩ := Option.some.inj e
      have ea : (⟨b, off, none⟩ : Addr).add j = ⟨b, off + j, none⟩ := by simp [Addr.add]
      rw [ea]
      clear HO hs hx ho h e
      rcases hc with ⟨rfl, rfl⟩ | ⟨rfl, rfl⟩ | ⟨rfl, rfl⟩ | ⟨rfl, rfl⟩
      · exact c0
      · rw [← Nat.add_assoc]; exact c1
      · rw [← Nat.add_assoc]; exact c2
      · rw [← Nat.add_assoc]; exact c3
    · intro v1 w1 hown hg _ hat
      refine h v1 w1 ?_ (hb.grown hg hB (fun k hk => (World.ownsRow.lt HO k hk).1)) (by have := hg.size; omega)
      unfold RowO
      rw [flatO_append, List.length_append]
      exact hown

/-- 'append' of one call: it lies in a block of its own, laid just ahead. -/
theorem app_op {ops : Array Oper} {rest : List Oper} {o : Oper} {a : Act} {Q : Exit → Act → World → Prop} {W w0 : World} (B : Nat) (hgd : o.guard = none) (s x : Operand)
    (ho : o.op = .call { callee := .builtin .append, args := #[s, x], argTypes := #[22, 22] })
    (v : Value) (l : List Opn) (y : Opn) (hs : a.eval s = v) {H : Nat} (hx : a.eval x = .slice (some ⟨H, 0, none⟩) 1 1) (hH : W.heap.size = H)
    (HO : RowO W B v l) (hl : l.length ≤ 1000000000) (hb : Below B w0 W) (hB : B ≤ W.heap.size)
    (h : ∀ v' w', RowO w' B v' (l ++ [y]) → Below B w0 w' → B ≤ w'.heap.size → wpList Try.prog ops Q rest (a.put o.dst v') w') :
    wpList Try.prog ops Q (o :: rest) a (W.alloc (.cells #[.int .i64 y.kind, .int .u64 y.lo, .int .u64 y.hi, .int .i64 y.val] 29)) := by
  subst hH
  obtain ⟨i0, hi0, hz0, hz1, hz2⟩ := info_parts info29
  refine wpList_append_own_at (W.alloc _) hgd s x 22 ho B 29 i0 _ 4 32 Try.underlying22 hi0 hz0 hz1 hz2 rfl (by omega) v l.length (flatO l) hs (World.ownsRow.alloc HO _) ⟨W.heap.size, 0, none⟩ 1 1
    [.int .i64 y.kind, .int .u64 y.lo, .int .u64 y.hi, .int .i64 y.val] hx rfl (World.news_of_block (cs := #[.int .i64 y.kind, .int .u64 y.lo, .int .u64 y.hi, .int .i64 y.val]) (t := 29) (fr := (0, 0)) (heap_alloc_new W _))
    (by simp [Value.oneCell']) (by simp only [maxLen]; omega) (by omega) (by simp; omega) ?_
  intro v1 w1 hown hg _ hat
  refine h v1 w1 ?_ ((hb.alloc hB _).grown hg (by simp; omega) (fun k hk => (World.ownsRow.lt HO k hk).1)) ?_
  · unfold RowO
    rw [flatO_append, List.length_append]
    exact hown
  · have := hg.size
    simp at this
    omega

/-- A call that is no Set, as a Clear. -/
def clr (o : Opn) : Opn := if o.kind = 1 then o else { o with kind := 2 }
theorem clr_ok {o : Opn} (h : o.ok) : (clr o).ok := by
  unfold clr
  split
  · exact h
  · exact ⟨h.1, h.2.1, h.2.2.1, h.2.2.2.1, (by decide : (-9223372036854775808 : Int) ≤ 2), (by decide : (2 : Int) ≤ 9223372036854775807), h.2.2.2.2.2.2⟩

set_option maxRecDepth 100000 in
set_option maxHeartbeats 1000000 in
theorem cleared_calls (w : World) (A : Option Addr) (n c : Nat) (l : List Opn) (hln : l.length = n) (hn : n ≤ 100000000) (hs : Script w A c l) :
    Calls Try.prog 52 #[.slice A n c] w fun e w' => ∃ v, e = .returned v ∧ RowO w' w.heap.size v (l.map clr) ∧ Below w.heap.size w w' := by
  go_enter Try.func52, Try.ntmps52
  go_wp2_with fail
  go_loopw [3, 4] (fun v i wr => ∃ k : Nat, k ≤ n ∧ i = .int .i64 k ∧ Hid (RowO wr w.heap.size v ((l.take k).map clr)) ∧ Hid (Below w.heap.size w wr) ∧ w.heap.size ≤ wr.heap.size) (fun _ i _ => n - (intOf i).toNat)
  case atStart => exact ⟨0, Nat.zero_le _, rfl, RowO.nil w w.heap.size, Below.refl _ _, Nat.le_refl _⟩
  case round =>
    obtain ⟨k, hk, rfl, HR, HB, hz⟩ := hrel
    by_cases hlt : k < n
    · obtain ⟨o, ho⟩ : ∃ o, l[k]? = some o := ⟨_, List.getElem?_eq_getElem (by omega)⟩
      obtain ⟨b, off, rfl, hbl, c0, c1, c2, c3⟩ := hs.2.2.2 k o ho
      have t0 := (HB.out.cell (p := ⟨b, off + k * 4, none⟩) hbl).trans c0
      have t1 := (HB.out.cell (p := ⟨b, off + k * 4 + 1, none⟩) hbl).trans c1
      have t2 := (HB.out.cell (p := ⟨b, off + k * 4 + 2, none⟩) hbl).trans c2
      have t3 := (HB.out.cell (p := ⟨b, off + k * 4 + 3, none⟩) hbl).trans c3
      have HE := Lib.hid (show (l.take (k + 1)).map clr = (l.take k).map clr ++ [clr o] by rw [M.take_snoc ho, List.map_append]; rfl)
      have hlen : ((l.take k).map clr).length ≤ 1000000000 := by have := List.length_take_le k l; simp; omega
      clear c0 c1 c2 c3 ho hs hln
      by_cases k1 : o.kind = 1
      · have q1 : (o.kind != 1) = false := by simpa using k1
        have HC := Lib.hid (show clr o = o by unfold clr; rw [if_pos k1])
        clear k1
        go_wp2_with (at_builtin; (refine app_op w.heap.size rfl (.tmp 20) (.tmp 22) rfl _ _ o rfl rfl (by simp) (HR.out.alloc _) hlen (HB.out.alloc hz _) (by simp; omega) ?_); intro v' w' hR' hB' hz')
        go_roundw
        case rel => exact ⟨k + 1, by omega, by go_num, by rw [HE.out, HC.out]; exact hR', hB', hz'⟩
        case measure => simp [intOf]; omega
      · have q1 : (o.kind != 1) = true := by simpa using k1
        have HC := Lib.hid (show clr o = { o with kind := 2 } by unfold clr; rw [if_neg k1])
        clear k1
        go_wp2_with (at_builtin; (refine app_op w.heap.size rfl (.tmp 20) (.tmp 22) rfl _ _ { o with kind := 2 } rfl rfl (by simp) (HR.out.alloc _) hlen (HB.out.alloc hz _) (by simp; omega) ?_); intro v' w' hR' hB' hz')
        go_roundw
        case rel => exact ⟨k + 1, by omega, by go_num, by rw [HE.out, HC.out]; exact hR', hB', hz'⟩
        case measure => simp [intOf]; omega
    · obtain rfl : k = n := by omega
      have e : l.take k = l := List.take_of_length_le (by omega)
      rw [e] at HR
      clear hs e hln
      go_wp2_with fail
      go_ret
      exact ⟨_, rfl, HR.out, HB.out⟩

end Go.Proofs.Ythkolpjbkbcmbaa
