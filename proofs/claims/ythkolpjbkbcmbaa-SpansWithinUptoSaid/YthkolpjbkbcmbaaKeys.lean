/- Lists of keys: what they are in memory; append onto one of the call's own. -/
import Derived.Test.YthkolpjbkbcmbaaBase
import Derived.Laws.AppendOwnNone
set_option linter.unusedVariables false
set_option linter.unusedSimpArgs false
namespace Go.Proofs.Ythkolpjbkbcmbaa
open Go.RowKit

def inU (x : Int) : Prop := 0 ≤ x ∧ x ≤ M.top
theorem inU_wrap (x : Int) : inU (IntKind.u64.wrap x) := by
  unfold inU M.top
  rw [IntKind.wrap_u64]
  omega

/-- A row of keys of the call's own. -/
def RowU (w : World) (base : Nat) (v : Value) (l : List Int) : Prop := w.ownsRow base 27 1 v l.length (l.map (Value.int .u64)) ∧ ∀ x ∈ l, inU x

theorem info27 : (Try.prog.info? 27).map (fun i => (i.zero, i.size, i.bytes)) = some (some (.int .u64 0), 1, 8) := by kernel_rfl

/-- A list of keys wherever it lies: nil, or its cells one behind the other. -/
def KeysAt (w : World) (A : Option Addr) (n c : Nat) (l : List Int) : Prop :=
  (∀ x ∈ l, inU x) ∧ l.length = n ∧ ((A = none ∧ n = 0 ∧ c = 0) ∨ ∃ ad, A = some ad ∧ (0 < n → ad.block < w.heap.size) ∧ ∀ j u, (l.map (Value.int .u64))[j]? = some u → w.cell? (ad.add j) = some u)

theorem add_block (a : Addr) (n : Nat) : (a.add n).block = a.block := by unfold Addr.add; split <;> rfl

theorem KeysAt.below {w w' : World} {A : Option Addr} {n c : Nat} {l : List Int} (h : KeysAt w A n c l) (hb : Below w.heap.size w w') : KeysAt w' A n c l := by
  refine ⟨h.1, h.2.1, h.2.2.imp id ?_⟩
  rintro ⟨ad, e, hlt, hc⟩
  refine ⟨ad, e, fun hn => Nat.lt_of_lt_of_le (hlt hn) hb.size, fun j u hu => (hb.cell ?_).trans (hc j u hu)⟩
  rw [add_block]
  have := (List.getElem?_eq_some_iff.1 hu).1
  exact hlt (by have h2 := h.2.1; simp at this; omega)

theorem KeysAt.lit (w : World) (l : List Int) (cs : Array Value) (hcs : cs.toList = l.map (Value.int .u64)) (hl : ∀ x ∈ l, inU x) : KeysAt (w.alloc (.cells cs 27)) (some ⟨w.heap.size, 0, none⟩) l.length l.length l :=
  ⟨hl, rfl, .inr ⟨_, rfl, fun _ => by simp, fun j u hu => World.news_of_block (cs := cs) (t := 27) (fr := (0, 0)) (heap_alloc_new w _) j u (by rw [hcs]; exact hu)⟩⟩

section
variable {w w' : World} {base : Nat} {v : Value} {l : List Int}
theorem RowU.alloc (h : RowU w base v l) (o : Obj) : RowU (w.alloc o) base v l := ⟨World.ownsRow.alloc h.1 o, h.2⟩
theorem RowU.drewN (h : RowU w base v l) (n : Nat) : RowU (w.drewN n) base v l := h
theorem RowU.grown (h : RowU w base v l) {row : Option Nat} (hg : w.grownBy w' row) (hne : v.ownBlock = none ∨ v.ownBlock ≠ row) : RowU w' base v l := ⟨World.ownsRow.kept h.1 hg hne, h.2⟩
theorem RowU.below (h : RowU w base v l) (hb : Below w.heap.size w w') : RowU w' base v l := h.grown (grown_below hb none) (by cases v.ownBlock <;> simp)
/-- What the walk reads of a row of keys. -/
theorem RowU.read (h : RowU w base v l) : ∃ A c, v = .slice A l.length c ∧ ∀ i x, l[i]? = some x → ∃ g, A = some ⟨g, 0, none⟩ ∧ base ≤ g ∧ g < w.heap.size ∧ w.cell? ⟨g, i, none⟩ = some (.int .u64 x) := by
  obtain ⟨A, c, rfl⟩ := own_slice h.1
  refine ⟨A, c, rfl, fun i x hx => ?_⟩
  have hi : i < l.length := (List.getElem?_eq_some_iff.1 hx).1
  obtain ⟨g, cap, hv, hgb, hgl⟩ := World.ownsRow.form h.1 (by omega)
  injection hv with hA hn hc
  subst hA
  subst hc
  refine ⟨g, rfl, hgb, hgl, ?_⟩
  rw [World.ownsRow.cellAt h.1 _ (by omega), List.getElem?_map, hx]
  rfl
end

def inI (x : Int) : Prop := -9223372036854775808 ≤ x ∧ x ≤ 9223372036854775807
/-- A list of ints wherever it lies. -/
def IntsAt (w : World) (A : Option Addr) (n c : Nat) (l : List Int) : Prop :=
  (∀ x ∈ l, inI x) ∧ l.length = n ∧ ((A = none ∧ n = 0 ∧ c = 0) ∨ ∃ ad, A = some ad ∧ (0 < n → ad.block < w.heap.size) ∧ ∀ j u, (l.map (Value.int .i64))[j]? = some u → w.cell? (ad.add j) = some u)

/-- 'append(v, xs...)' onto a row of the call's own. -/
theorem app_keys {ops : Array Oper} {rest : List Oper} {o : Oper} {a : Act} {Q : Exit → Act → World → Prop} {W : World} (base : Nat) (hgd : o.guard = none) (s x : Operand)
    (ho : o.op = .call { callee := .builtin .append, args := #[s, x], argTypes := #[23, 23] })
    (v : Value) (l : List Int) (A : Option Addr) (m c : Nat) (ys : List Int) (hs : a.eval s = v) (hx : a.eval x = .slice A m c) (hk : KeysAt W A m c ys)
    (HO : RowU W base v l) (hl : l.length + m ≤ 2000000000) (hbase : base ≤ W.heap.size)
    (h : ∀ v' w', RowU w' base v' (l ++ ys) → W.grownBy w' v.ownBlock → (v'.ownBlock = v.ownBlock ∨ ∃ b, v'.ownBlock = some b ∧ W.heap.size ≤ b) → wpList Try.prog ops Q rest (a.put o.dst v') w') :
    wpList Try.prog ops Q (o :: rest) a W := by
  obtain ⟨i0, hi, hz0, hz1, hz2⟩ := info_parts info27
  obtain ⟨hr, hlen, ⟨rfl, rfl, rfl⟩ | ⟨ad, rfl, hlt, hc⟩⟩ := hk
  · obtain rfl : ys = [] := List.eq_nil_of_length_eq_zero hlen
    refine wpList_append_own_none hgd s x 23 ho base 27 i0 1 Try.underlying23 hi v l.length _ hs HO.1 hx ?_
    exact h v W (by simpa using HO) (World.grownBy.refl W _) (.inl rfl)
  · refine wpList_append_own_at W hgd s x 23 ho base 27 i0 _ 1 8 Try.underlying23 hi hz0 hz1 hz2 rfl (by omega) v l.length _ hs HO.1 ad m c
      (ys.map (Value.int .u64)) hx (by simp [hlen]) hc (by simp [Value.oneCell']) (by simp only [maxLen]; omega) (by omega) hbase ?_
    intro v1 w1 hown hg _ hat
    refine h v1 w1 ⟨?_, ?_⟩ hg ?_
    · rw [List.map_append, List.length_append, hlen]
      exact hown
    · intro y hy
      rcases List.mem_append.1 hy with hy | hy
      · exact HO.2 y hy
      · exact hr y hy
    · rcases hat with hat | hat
      · exact .inl hat
      · exact .inr ⟨_, hat, Nat.le_refl _⟩

/-- 'append(v, x)' of one key: it lies in a block of its own, laid just ahead. -/
theorem app_key {ops : Array Oper} {rest : List Oper} {o : Oper} {a : Act} {Q : Exit → Act → World → Prop} {W w0 : World} (B : Nat) (hgd : o.guard = none) (s y : Operand)
    (ho : o.op = .call { callee := .builtin .append, args := #[s, y], argTypes := #[23, 23] })
    (v : Value) (l : List Int) (x : Int) (hs : a.eval s = v) {H : Nat} (hy : a.eval y = .slice (some ⟨H, 0, none⟩) 1 1) (hH : W.heap.size = H)
    (HO : RowU W B v l) (hx : inU x) (hl : l.length ≤ 1000000000) (hb : Below B w0 W) (hB : B ≤ W.heap.size)
    (h : ∀ v' w', RowU w' B v' (l ++ [x]) → Below B w0 w' → B ≤ w'.heap.size → wpList Try.prog ops Q rest (a.put o.dst v') w') :
    wpList Try.prog ops Q (o :: rest) a (W.alloc (.cells #[.int .u64 x] 27)) := by
  subst hH
  refine app_keys B hgd s y ho v l (some ⟨W.heap.size, 0, none⟩) 1 1 [x] hs hy (KeysAt.lit W [x] #[.int .u64 x] rfl (by simpa using hx)) (HO.alloc _) (by omega) (by simp; omega) ?_
  intro v' w' hR hG hat
  refine h v' w' hR ((hb.alloc hB _).grown hG (by simp; omega) (fun k hk => (World.ownsRow.lt HO.1 k hk).1)) ?_
  have := hG.size
  simp at this
  omega

end Go.Proofs.Ythkolpjbkbcmbaa
