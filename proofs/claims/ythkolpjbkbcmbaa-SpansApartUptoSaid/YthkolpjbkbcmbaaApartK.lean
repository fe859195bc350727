/- SpansApart: appends that keep the slice onto which they go; rows that are written full; a map of one span. -/
import Derived.Test.YthkolpjbkbcmbaaApartM
set_option linter.unusedVariables false
set_option linter.unusedSimpArgs false
namespace Go.Proofs.Ythkolpjbkbcmbaa
open Go.RowKit

section
variable {P : Program} (w : World)
/-- 'append' to a row of one's own: the slice onto which it goes reads behind it as it did. -/
theorem run_append_keep (base : Nat) (t ty e : TypeId) (i : TypeInfo) (z : Value) (size bytes : Nat) (ht : P.underlying t = some (.slice e)) (hi : P.info? e = some i) (hz : i.zero = some z)
    (hsize : i.size = size) (hby : i.bytes = bytes) (hzs : z.cells.size = size) (hsz : 0 < size)
    (v : Value) (n : Nat) (xs : List Value) (hown : w.ownsRow base e size v n xs)
    (a : Addr) (m c : Nat) (news : List Value) (hl : news.length = m * size) (hnews : ∀ j u, news[j]? = some u → w.cell? (a.add j) = some u) (h1 : ∀ u ∈ news, u.oneCell' = true)
    (h63 : n + m ≤ maxLen) (hbytes : (n + m) * bytes ≤ 140737488355328) (hbase : base ≤ w.heap.size) :
    ∃ v' w', (Builtin.append_ #[t, t] ty #[v, .slice (some a) m c]).run P w = .ok v' w' ∧ w'.ownsRow base e size v' (n + m) (xs ++ news) ∧ w'.ownsRow base e size v n xs ∧ w.grownBy w' v.ownBlock ∧ (v'.ownBlock = v.ownBlock ∨ v'.ownBlock = some w.heap.size) := by
  obtain ⟨v', w', hr, h2, h3, _, h5⟩ := run_append_own_at (P := P) w base t ty e i z size bytes ht hi hz hsize hby hzs hsz v n xs hown a m c news hl hnews h1 h63 hbytes hbase
  refine ⟨v', w', hr, h2, ?_, h3, h5⟩
  subst hsize
  subst hby
  rcases hown.2 with ⟨rfl, rfl⟩ | ⟨g, cap, cur, rfl, hbg, hg, hnc, hcm, hcs, htake⟩
  · exact ⟨hown.1, .inl ⟨rfl, rfl⟩⟩
  · by_cases hroom : n + m ≤ cap
    · have hfit : n * i.size + news.length ≤ cur.size := by rw [hl, hcs, ← Nat.add_mul]; exact Nat.mul_le_mul_right _ hroom
      have hr' := run_append_room (P := P) w t ty e i ht hi g n cap cur hg a m c news hl hnews h1 hroom hfit
      rw [hr'] at hr
      injection hr with e1 e2
      subst e1
      subst e2
      refine ⟨hown.1, .inr ⟨g, cap, _, rfl, hbg, setRow_heap w g cur _ e _ hg, hnc, hcm, ?_, ?_⟩⟩
      · simp only [List.size_toArray, List.length_append, List.length_take, List.length_drop, Array.length_toList]
        omega
      · rw [htake, List.append_assoc]
        exact List.take_left' (by rw [hown.1])
    · have holds : ∀ j u, xs[j]? = some u → w.cell? ((⟨g, 0, none⟩ : Addr).add j) = some u := hown.cells (g := g) rfl
      have hr' := run_append_grow (P := P) w t ty e i z ht hi hz ⟨g, 0, none⟩ n cap xs hown.1 holds a m c news hl hnews (by omega) (by simp only [maxLen] at h63; omega) (growslice_fits (by omega) hbytes)
      rw [hr'] at hr
      injection hr with e1 e2
      subst e1
      subst e2
      refine ⟨hown.1, .inr ⟨g, cap, cur, rfl, hbg, ?_, hnc, hcm, hcs, htake⟩⟩
      exact (heap_alloc_old w.drew _ (Array.getElem?_eq_some_iff.1 hg).1).trans hg

theorem wpList_append_keep {ops : Array Oper} {rest : List Oper} {o : Oper} {a : Act} {Q : Exit → Act → World → Prop} (hgd : o.guard = none) (s x : Operand) (t : TypeId)
    (ho : o.op = .call { callee := .builtin .append, args := #[s, x], argTypes := #[t, t] })
    (base : Nat) (e : TypeId) (i : TypeInfo) (z : Value) (size bytes : Nat) (ht : P.underlying t = some (.slice e)) (hi : P.info? e = some i) (hz : i.zero = some z)
    (hsize : i.size = size) (hby : i.bytes = bytes) (hzs : z.cells.size = size) (hsz : 0 < size)
    (v : Value) (n : Nat) (xs : List Value) (hs : a.eval s = v) (hown : w.ownsRow base e size v n xs)
    (ad : Addr) (m c : Nat) (news : List Value) (hx : a.eval x = .slice (some ad) m c) (hl : news.length = m * size) (hnews : ∀ j u, news[j]? = some u → w.cell? (ad.add j) = some u) (h1 : ∀ u ∈ news, u.oneCell' = true)
    (h63 : n + m ≤ maxLen) (hbytes : (n + m) * bytes ≤ 140737488355328) (hbase : base ≤ w.heap.size)
    (h : ∀ v' w', w'.ownsRow base e size v' (n + m) (xs ++ news) → w'.ownsRow base e size v n xs → w.grownBy w' v.ownBlock → (v'.ownBlock = v.ownBlock ∨ v'.ownBlock = some w.heap.size) → wpList P ops Q rest (a.put o.dst v') w') :
    wpList P ops Q (o :: rest) a w := by
  refine wpList_plain hgd fun K hK => ?_
  obtain ⟨v', w', hr, h2, h3, h4, h5⟩ := run_append_keep (P := P) w base t o.type e i z size bytes ht hi hz hsize hby hzs hsz v n xs hown ad m c news hl hnews h1 h63 hbytes hbase
  unfold Oper.wp execOp
  simp only [ho, resolve, invoke, builtin, Sem.run_bind, Sem.run_pure, Result.andThen_ok, List.map_toArray, List.map_cons, List.map_nil, hs, hx, hr]
  exact hK _ _ (h v' w' h2 h3 h4 h5)
end

/-- An operation whose guard says yes, as one without a guard. -/
theorem wpList_unguard {P : Program} {ops : Array Oper} {rest : List Oper} {Q : Exit → Act → World → Prop} {a : Act} {w : World} {d : Option Tmp} {op : Op} {ty : TypeId} {pos : String} {af : Array Edge} {g : Option (Nat × Bool)}
    (hw : Region.wanted ⟨d, op, ty, pos, af, g⟩ (yielded ops a.tmps) = true) (h : wpList P ops Q (⟨d, op, ty, pos, af, none⟩ :: rest) a w) : wpList P ops Q (⟨d, op, ty, pos, af, g⟩ :: rest) a w := by
  have e : Region.wanted ⟨d, op, ty, pos, af, none⟩ (yielded ops a.tmps) = true := rfl
  simp only [wpList, hw, e, if_true] at h ⊢
  exact h

/-- 'append' of two spans. -/
theorem app_two {ops : Array Oper} {rest : List Oper} {o : Oper} {a : Act} {Q : Exit → Act → World → Prop} {W : World} (base : Nat) (hgd : o.guard = none) (s x : Operand)
    (ho : o.op = .call { callee := .builtin .append, args := #[s, x], argTypes := #[69, 69] })
    (v : Value) (l : List S) (y0 y1 : S) (hs : a.eval s = v) {H : Nat} (hx : a.eval x = .slice (some ⟨H, 0, none⟩) 2 2) (hH : W.heap.size = H)
    (HO : RowAt W base v l) (hl : l.length ≤ 1000000000) (hbase : base ≤ W.heap.size)
    (h : ∀ v' w', RowAt w' base v' (l ++ [y0, y1]) → RowAt w' base v l → W.grownBy w' v.ownBlock → (v'.ownBlock = v.ownBlock ∨ ∃ b, v'.ownBlock = some b ∧ W.heap.size ≤ b) → wpList Try.prog ops Q rest (a.put o.dst v') w') :
    wpList Try.prog ops Q (o :: rest) a (W.alloc (.cells #[.int .u64 y0.lo, .int .u64 y0.hi, .int .i64 y0.v, .int .u64 y1.lo, .int .u64 y1.hi, .int .i64 y1.v] 34)) := by
  subst hH
  obtain ⟨i0, hi, hz0, hz1, hz2⟩ := info_parts info34
  refine wpList_append_keep (W.alloc _) hgd s x 69 ho base 34 i0 _ 3 24 Try.underlying69 hi hz0 hz1 hz2 rfl (by omega) v l.length (flat l) hs (World.ownsRow.alloc HO _) ⟨W.heap.size, 0, none⟩ 2 2
    [.int .u64 y0.lo, .int .u64 y0.hi, .int .i64 y0.v, .int .u64 y1.lo, .int .u64 y1.hi, .int .i64 y1.v] hx rfl (World.news_of_block (cs := #[.int .u64 y0.lo, .int .u64 y0.hi, .int .i64 y0.v, .int .u64 y1.lo, .int .u64 y1.hi, .int .i64 y1.v]) (t := 34) (fr := (0, 0)) (heap_alloc_new W _))
    (by simp [Value.oneCell']) (by simp only [maxLen]; omega) (by omega) (by simp; omega) ?_
  intro v1 w1 hown hkeep hg hat
  refine h v1 w1 ?_ hkeep (grown_alloc hg) ?_
  · unfold RowAt
    rw [flat_append, List.length_append]
    exact hown
  · rcases hat with hat | hat
    · exact .inl hat
    · exact .inr ⟨_, hat, by simp⟩

/-- 'append' of one room, the slice onto which it goes kept. -/
theorem app_roomk {ops : Array Oper} {rest : List Oper} {o : Oper} {a : Act} {Q : Exit → Act → World → Prop} {W : World} (base : Nat) (hgd : o.guard = none) (s x : Operand)
    (ho : o.op = .call { callee := .builtin .append, args := #[s, x], argTypes := #[87, 87] })
    (v : Value) (l : List Rm) (lo hi : Int) (hs : a.eval s = v) {H : Nat} (hx : a.eval x = .slice (some ⟨H, 0, none⟩) 1 1) (hH : W.heap.size = H)
    (HO : RowM W base v l) (hl : l.length ≤ 1000000000) (hbase : base ≤ W.heap.size)
    (h : ∀ v' w', RowM w' base v' (l ++ [⟨lo, hi, ()⟩]) → RowM w' base v l → W.grownBy w' v.ownBlock → (v'.ownBlock = v.ownBlock ∨ ∃ b, v'.ownBlock = some b ∧ W.heap.size ≤ b) → wpList Try.prog ops Q rest (a.put o.dst v') w') :
    wpList Try.prog ops Q (o :: rest) a (W.alloc (.cells #[.int .u64 lo, .int .u64 hi] 90)) := by
  subst hH
  obtain ⟨i0, hi0, hz0, hz1, hz2⟩ := info_parts info90
  refine wpList_append_keep (W.alloc _) hgd s x 87 ho base 90 i0 _ 2 16 Try.underlying87 hi0 hz0 hz1 hz2 rfl (by omega) v l.length (flatM l) hs (World.ownsRow.alloc HO _) ⟨W.heap.size, 0, none⟩ 1 1
    [.int .u64 lo, .int .u64 hi] hx rfl (World.news_of_block (cs := #[.int .u64 lo, .int .u64 hi]) (t := 90) (fr := (0, 0)) (heap_alloc_new W _))
    (by simp [Value.oneCell']) (by simp only [maxLen]; omega) (by omega) (by simp; omega) ?_
  intro v1 w1 hown hkeep hg hat
  refine h v1 w1 ?_ hkeep (grown_alloc hg) ?_
  · unfold RowM
    rw [flatM_append, List.length_append]
    exact hown
  · rcases hat with hat | hat
    · exact .inl hat
    · exact .inr ⟨_, hat, by simp⟩

theorem flatM_set (l : List Rm) : ∀ (i : Nat) (s : Rm), i < l.length → ((flatM l).set (i * 2) (.int .u64 s.lo)).set (i * 2 + 1) (.int .u64 s.hi) = flatM (l.set i s) := by
  induction l with
  | nil => intro i s h; simp at h
  | cons t l ih =>
    intro i s h
    cases i with
    | zero => rfl
    | succ i =>
      have e : (i + 1) * 2 = i * 2 + 2 := by omega
      rw [e, List.set_cons_succ]
      have := ih i s (by simpa using h)
      simp only [flatM, List.set_cons_succ, ← this]

/-- A room of a row is written anew. -/
theorem RowM.put {w : World} {B g n c i : Nat} {P : List Rm} (s : Rm) (h : RowM w B (.slice (some ⟨g, 0, none⟩) n c) P) (hn : P.length = n) (hi : i < n) :
    RowM ((w.setCell ⟨g, i * 2, none⟩ (.int .u64 s.lo)).setCell ⟨g, i * 2 + 1, none⟩ (.int .u64 s.hi)) B (.slice (some ⟨g, 0, none⟩) n c) (P.set i s) ∧
    w.grownBy ((w.setCell ⟨g, i * 2, none⟩ (.int .u64 s.lo)).setCell ⟨g, i * 2 + 1, none⟩ (.int .u64 s.hi)) (some g) := by
  subst hn
  have h1 := World.ownsRow.stored h (i * 2) (.int .u64 s.lo)
  have h2 := h1.1.stored (i * 2 + 1) (.int .u64 s.hi)
  refine ⟨?_, h1.2.trans h2.2⟩
  have := h2.1
  rw [flatM_set P i s hi] at this
  unfold RowM
  simpa using this

/-- A cell that lies elsewhere. -/
theorem cell_set_other {w : World} {g k h j : Nat} {u v : Value} (hc : w.cell? ⟨h, j, none⟩ = some u) (hne : h ≠ g ∨ j ≠ k) : (w.setCell ⟨g, k, none⟩ v).cell? ⟨h, j, none⟩ = some u := by
  rw [World.cell?_setCell_other]
  · exact hc
  · intro e
    injection e with e1 e2 _
    have e1 := e1.symm
    have e2 := e2.symm
    rcases hne with h1 | h1
    · exact h1 e1
    · exact h1 e2

/-- The map behind a Set of every key. -/
theorem put_all {L : List S} (hW : M.WF L) (x : Int) : put L 0 18446744073709551615 (some x) = [⟨0, 18446744073709551615, x⟩] := by
  have h0 : (0 : Int) ≤ 0 := Int.le_refl _
  have ht : (18446744073709551615 : Int) ≤ M.top := Int.le_refl _
  refine M.canon (put_wf _ hW h0 ht) ⟨fun s hs => ?_, by simp⟩ fun k v => ?_
  · obtain rfl : s = ⟨0, 18446744073709551615, x⟩ := by simpa using hs
    exact ⟨h0, (by decide : (0 : Int) ≤ 18446744073709551615), ht⟩
  · rw [put_has _ hW h0 ht, M.has_cons]
    simp only [M.has_nil, or_false]
    by_cases hk : 0 ≤ k ∧ k ≤ 18446744073709551615
    · rw [if_pos hk]
      constructor
      · intro e; injection e with e; exact ⟨hk.1, hk.2, e⟩
      · intro ⟨_, _, e⟩; rw [e]
    · rw [if_neg hk]
      constructor
      · intro ⟨s, hs, a, b, _⟩
        have := hW.1 s hs
        unfold M.Sp.ok M.top at this
        omega
      · intro ⟨a, b, _⟩; exact absurd ⟨a, b⟩ hk

/-- A list of which the first j are s. -/
def Full {α : Type} (P : List α) (f : α → Prop) (j n : Nat) : Prop := P.length = n ∧ ∀ k s, k < j → P[k]? = some s → f s
theorem Full.next {α : Type} {P : List α} {f : α → Prop} {j n : Nat} (h : Full P f j n) (s : α) (hs : f s) : Full (P.set j s) f (j + 1) n := by
  refine ⟨by simpa using h.1, fun k t hk ht => ?_⟩
  by_cases e : k = j
  · subst e
    rw [List.getElem?_set_self' ] at ht
    cases hp : P[k]? with
    | none => rw [hp] at ht; simp at ht
    | some u => rw [hp] at ht; simp at ht; subst ht; exact hs
  · rw [List.getElem?_set_ne (fun h => e h.symm)] at ht
    exact h.2 k t (by omega) ht

theorem own_blocks {g n c : Nat} : (Value.slice (some ⟨g, 0, none⟩) n c).ownBlock = some g := rfl
theorem own_inj {g n c k : Nat} (h : (Value.slice (some ⟨g, 0, none⟩) n c).ownBlock = some k) : k = g := by rw [own_blocks] at h; injection h with h; exact h.symm
theorem RowAt.tail2 {w : World} {B n : Nat} {v : Value} {L : List S} {y0 y1 : S} (h : RowAt w B v (L ++ [y0, y1])) (hn : L.length = n) :
    ∃ g c, v = .slice (some ⟨g, 0, none⟩) (n + 2) c ∧ B ≤ g ∧ g < w.heap.size ∧ w.cell? ⟨g, n * 3 + 2, none⟩ = some (.int .i64 y0.v) ∧ w.cell? ⟨g, (n + 1) * 3 + 2, none⟩ = some (.int .i64 y1.v) := by
  subst hn
  obtain ⟨A, c, rfl, _, _, hr⟩ := h.read
  obtain ⟨g, rfl, h1, h2, _, _, h3, _⟩ := hr L.length y0 (by simp)
  obtain ⟨g', e, _, _, _, _, h4, _⟩ := hr (L.length + 1) y1 (by simp)
  injection e with e; injection e with e _ _; subst e
  exact ⟨g, c, by simp, h1, h2, h3, h4⟩
theorem RowM.tail1 {w : World} {B n : Nat} {v : Value} {L : List Rm} {lo hi : Int} (h : RowM w B v (L ++ [⟨lo, hi, ()⟩])) (hn : L.length = n) :
    ∃ g c, v = .slice (some ⟨g, 0, none⟩) (n + 1) c ∧ B ≤ g ∧ g < w.heap.size ∧ w.cell? ⟨g, n * 2, none⟩ = some (.int .u64 lo) := by
  subst hn
  obtain ⟨A, c, rfl, hr⟩ := h.read
  obtain ⟨g, rfl, h1, h2, h3, _⟩ := hr L.length ⟨lo, hi, ()⟩ (by simp)
  exact ⟨g, c, by simp, h1, h2, h3⟩
theorem own_at {g n c n' c' E : Nat} {A : Option Addr} (h : (Value.slice (some ⟨g, 0, none⟩) n c).ownBlock = (Value.slice A n' c').ownBlock ∨ ∃ b, (Value.slice (some ⟨g, 0, none⟩) n c).ownBlock = some b ∧ E ≤ b) : (Value.slice A n' c').ownBlock = some g ∨ E ≤ g := by
  rcases h with h | ⟨b, h, hb⟩
  · exact .inl h.symm
  · rw [own_blocks] at h; injection h with h; subst h; exact .inr hb

/-- Two rows of spans and two of rooms. -/
structure Fam (B : Nat) (V : World) (va vb vx vy : Value) (La Lb : List S) (Lx Ly : List Rm) (w : World) : Prop where
  below : Below B V w
  size : B ≤ w.heap.size
  a : RowAt w B va La
  b : RowAt w B vb Lb
  x : RowM w B vx Lx
  y : RowM w B vy Ly

/-- What stands behind the ends. -/
structure Tails (n m gp gq gu gw : Nat) (w : World) : Prop where
  p : w.cell? ⟨gp, n * 3 + 2, none⟩ = some (.int .i64 71)
  q : w.cell? ⟨gq, (n + 1) * 3 + 2, none⟩ = some (.int .i64 74)
  u : w.cell? ⟨gu, m * 2, none⟩ = some (.int .u64 75)
  w : w.cell? ⟨gw, m * 2, none⟩ = some (.int .u64 76)
theorem Tails.set {n m gp gq gu gw : Nat} {w : World} (h : Tails n m gp gq gu gw w) (g j : Nat) (v : Value) (hp : gp ≠ g ∨ j < n * 3) (hq : gq ≠ g ∨ j < n * 3) (hu : gu ≠ g ∨ j < m * 2) (hw : gw ≠ g ∨ j < m * 2) : Tails n m gp gq gu gw (w.setCell ⟨g, j, none⟩ v) :=
  ⟨cell_set_other h.p (by omega), cell_set_other h.q (by omega), cell_set_other h.u (by omega), cell_set_other h.w (by omega)⟩


/-- The i-th of both rows of spans written anew. -/
theorem Fam.putS {B n ga gb ca cb i : Nat} {V w : World} {vx vy : Value} {La Lb : List S} {Lx Ly : List Rm} (s t : S)
    (h : Fam B V (.slice (some ⟨ga, 0, none⟩) n ca) (.slice (some ⟨gb, 0, none⟩) n cb) vx vy La Lb Lx Ly w) (hla : La.length = n) (hlb : Lb.length = n) (hi : i < n) (hB : B ≤ ga) (hab : ga < gb)
    (hx : vx.ownBlock = none ∨ ∃ g, vx.ownBlock = some g ∧ gb < g) (hy : vy.ownBlock = none ∨ ∃ g, vy.ownBlock = some g ∧ gb < g) :
    Fam B V (.slice (some ⟨ga, 0, none⟩) n ca) (.slice (some ⟨gb, 0, none⟩) n cb) vx vy (La.set i s) (Lb.set i t) Lx Ly
      ((((((w.setCell ⟨ga, i * 3, none⟩ (.int .u64 s.lo)).setCell ⟨ga, i * 3 + 1, none⟩ (.int .u64 s.hi)).setCell ⟨ga, i * 3 + 2, none⟩ (.int .i64 s.v)).setCell ⟨gb, i * 3, none⟩ (.int .u64 t.lo)).setCell ⟨gb, i * 3 + 1, none⟩ (.int .u64 t.hi)).setCell ⟨gb, i * 3 + 2, none⟩ (.int .i64 t.v)) := by
  have h1 := h.a.put s hla hi
  have hb1 : RowAt _ B _ Lb := h.b.grown h1.2 (.inr (by rw [own_blocks]; intro e; injection e with e; omega))
  have h2 := hb1.put t hlb hi
  have nx : ∀ g, g ≤ gb → vx.ownBlock = none ∨ vx.ownBlock ≠ some g := fun g hg => hx.imp id fun ⟨k, e, hk⟩ e2 => by rw [e] at e2; injection e2 with e2; omega
  have ny : ∀ g, g ≤ gb → vy.ownBlock = none ∨ vy.ownBlock ≠ some g := fun g hg => hy.imp id fun ⟨k, e, hk⟩ e2 => by rw [e] at e2; injection e2 with e2; omega
  refine ⟨(h.below.grown h1.2 h.size (fun k hk => by injection hk with hk; omega)).grown h2.2 (Nat.le_trans h.size h1.2.size) (fun k hk => by injection hk with hk; omega), Nat.le_trans (Nat.le_trans h.size h1.2.size) h2.2.size,
    h1.1.grown h2.2 (.inr (by rw [own_blocks]; intro e; injection e with e; omega)), h2.1, (h.x.grown h1.2 (nx _ (by omega))).grown h2.2 (nx _ (by omega)), (h.y.grown h1.2 (ny _ (by omega))).grown h2.2 (ny _ (by omega))⟩

/-- The i-th of both rows of rooms written anew. -/
theorem Fam.putM {B n m ga gb gx gy ca cb cx cy i : Nat} {V w : World} {La Lb : List S} {Lx Ly : List Rm} (s t : Rm)
    (h : Fam B V (.slice (some ⟨ga, 0, none⟩) n ca) (.slice (some ⟨gb, 0, none⟩) n cb) (.slice (some ⟨gx, 0, none⟩) m cx) (.slice (some ⟨gy, 0, none⟩) m cy) La Lb Lx Ly w) (hlx : Lx.length = m) (hly : Ly.length = m) (hi : i < m) (hB : B ≤ ga) (hab : ga < gb) (hbx : gb < gx) (hxy : gx < gy) :
    Fam B V (.slice (some ⟨ga, 0, none⟩) n ca) (.slice (some ⟨gb, 0, none⟩) n cb) (.slice (some ⟨gx, 0, none⟩) m cx) (.slice (some ⟨gy, 0, none⟩) m cy) La Lb (Lx.set i s) (Ly.set i t)
      ((((w.setCell ⟨gx, i * 2, none⟩ (.int .u64 s.lo)).setCell ⟨gx, i * 2 + 1, none⟩ (.int .u64 s.hi)).setCell ⟨gy, i * 2, none⟩ (.int .u64 t.lo)).setCell ⟨gy, i * 2 + 1, none⟩ (.int .u64 t.hi)) := by
  have h1 := h.x.put s hlx hi
  have hy1 : RowM _ B _ Ly := h.y.grown h1.2 (.inr (by rw [own_blocks]; intro e; injection e with e; omega))
  have h2 := hy1.put t hly hi
  have ne : ∀ {g k n c : Nat}, g ≠ k → (Value.slice (some ⟨g, 0, none⟩) n c).ownBlock = none ∨ (Value.slice (some ⟨g, 0, none⟩) n c).ownBlock ≠ some k := fun hgk => .inr (by rw [own_blocks]; intro e; injection e with e; exact hgk e)
  exact ⟨(h.below.grown h1.2 h.size (fun k hk => by injection hk with hk; omega)).grown h2.2 (Nat.le_trans h.size h1.2.size) (fun k hk => by injection hk with hk; omega), Nat.le_trans (Nat.le_trans h.size h1.2.size) h2.2.size,
    (h.a.grown h1.2 (ne (by omega))).grown h2.2 (ne (by omega)), (h.b.grown h1.2 (ne (by omega))).grown h2.2 (ne (by omega)), h1.1.grown h2.2 (ne (by omega)), h2.1⟩

end Go.Proofs.Ythkolpjbkbcmbaa
