/- Plain mathematics of maps kept as spans: lists of spans over whole numbers, no Go and no memory. -/
set_option linter.unusedVariables false
set_option linter.unusedSimpArgs false
namespace Go.Proofs.Ythkolpjbkbcmbaa.M

/-- The greatest key. -/
def top : Int := 18446744073709551615
theorem top_eq : top = 18446744073709551615 := rfl

structure Sp (V : Type) where
  lo : Int
  hi : Int
  v : V

section
variable {V : Type}

/-- The keys of a span lie in the room of keys. -/
def Sp.ok (s : Sp V) : Prop := 0 ≤ s.lo ∧ s.lo ≤ s.hi ∧ s.hi ≤ top

/-- One span lies ahead of another, and does not touch it with its value. -/
def R (s t : Sp V) : Prop := s.hi < t.lo ∧ (s.hi + 1 = t.lo → s.v ≠ t.v)

def WF (l : List (Sp V)) : Prop := (∀ s ∈ l, s.ok) ∧ l.Pairwise R

/-- The key k has the value v. -/
def Has (l : List (Sp V)) (k : Int) (v : V) : Prop := ∃ s ∈ l, s.lo ≤ k ∧ k ≤ s.hi ∧ s.v = v

theorem WF.nil : WF ([] : List (Sp V)) := ⟨by simp, List.Pairwise.nil⟩

theorem WF.tail {s : Sp V} {l : List (Sp V)} (h : WF (s :: l)) : WF l :=
  ⟨fun x hx => h.1 x (List.mem_cons_of_mem _ hx), (List.pairwise_cons.1 h.2).2⟩

theorem WF.head {s : Sp V} {l : List (Sp V)} (h : WF (s :: l)) : s.ok ∧ ∀ t ∈ l, R s t :=
  ⟨h.1 s (List.mem_cons_self ..), (List.pairwise_cons.1 h.2).1⟩

theorem has_nil (k : Int) (v : V) : ¬ Has ([] : List (Sp V)) k v := by rintro ⟨s, h, _⟩; cases h

theorem has_cons {s : Sp V} {l : List (Sp V)} {k : Int} {v : V} : Has (s :: l) k v ↔ (s.lo ≤ k ∧ k ≤ s.hi ∧ s.v = v) ∨ Has l k v := by
  unfold Has
  constructor
  · rintro ⟨t, ht, h⟩
    rcases List.mem_cons.1 ht with rfl | ht
    · exact .inl h
    · exact .inr ⟨t, ht, h⟩
  · rintro (h | ⟨t, ht, h⟩)
    · exact ⟨s, List.mem_cons_self .., h⟩
    · exact ⟨t, List.mem_cons_of_mem _ ht, h⟩

theorem has_append {l m : List (Sp V)} {k : Int} {v : V} : Has (l ++ m) k v ↔ Has l k v ∨ Has m k v := by
  unfold Has
  constructor
  · rintro ⟨t, ht, h⟩
    rcases List.mem_append.1 ht with ht | ht
    · exact .inl ⟨t, ht, h⟩
    · exact .inr ⟨t, ht, h⟩
  · rintro (⟨t, ht, h⟩ | ⟨t, ht, h⟩)
    · exact ⟨t, List.mem_append.2 (.inl ht), h⟩
    · exact ⟨t, List.mem_append.2 (.inr ht), h⟩

theorem has_tail_gt {s : Sp V} {l : List (Sp V)} (h : WF (s :: l)) {k : Int} {v : V} (hk : Has l k v) : s.hi < k := by
  obtain ⟨t, ht, h1, _⟩ := hk
  have := (h.head.2 t ht).1
  omega

/-- A key has one value at the most. -/
theorem has_one {l : List (Sp V)} (h : WF l) {k : Int} {v v' : V} (a : Has l k v) (b : Has l k v') : v = v' := by
  induction l with
  | nil => exact absurd a (has_nil k v)
  | cons s l ih =>
    rcases has_cons.1 a with a1 | a1 <;> rcases has_cons.1 b with b1 | b1
    · exact a1.2.2.symm.trans b1.2.2
    · have := has_tail_gt h b1; omega
    · have := has_tail_gt h a1; omega
    · exact ih h.tail a1 b1

/-- The form is one: two well formed lists that say the same of every key are the same list. -/
theorem canon {l : List (Sp V)} : ∀ {m : List (Sp V)}, WF l → WF m → (∀ k v, Has l k v ↔ Has m k v) → l = m := by
  have hle : ∀ (s t : Sp V) (l m : List (Sp V)), WF (s :: l) → WF (t :: m) → (∀ k v, Has (s :: l) k v → Has (t :: m) k v) → t.lo ≤ s.lo := by
    intro s t l m hl hm h
    have h1 := h s.lo s.v (has_cons.2 (.inl ⟨Int.le_refl _, hl.head.1.2.1, rfl⟩))
    rcases has_cons.1 h1 with h2 | h2
    · exact h2.1
    · have := has_tail_gt hm h2
      have := hm.head.1.2.1
      omega
  have hhi : ∀ (s t : Sp V) (l m : List (Sp V)), WF (s :: l) → WF (t :: m) → s.lo = t.lo → s.v = t.v → (∀ k v, Has (s :: l) k v → Has (t :: m) k v) → s.hi ≤ t.hi := by
    intro s t l m hl hm e ev h
    rcases Int.lt_or_le t.hi s.hi with hlt | hge
    · exfalso
      have h0 := hm.head.1.2.1
      have h1 := h (t.hi + 1) s.v (has_cons.2 (.inl ⟨by omega, by omega, rfl⟩))
      rcases has_cons.1 h1 with h2 | ⟨u, hu, h2, h3, h4⟩
      · omega
      · have hR := hm.head.2 u hu
        exact hR.2 (by have := hR.1; omega) (by rw [h4, ev])
    · exact hge
  induction l with
  | nil =>
    intro m _ hm h
    cases m with
    | nil => rfl
    | cons t m => exact absurd ((h t.lo t.v).2 (has_cons.2 (.inl ⟨Int.le_refl _, hm.head.1.2.1, rfl⟩))) (has_nil _ _)
  | cons s l ih =>
    intro m hl hm h
    cases m with
    | nil => exact absurd ((h s.lo s.v).1 (has_cons.2 (.inl ⟨Int.le_refl _, hl.head.1.2.1, rfl⟩))) (has_nil _ _)
    | cons t m =>
      have e1 : s.lo = t.lo := by
        have a := hle s t l m hl hm (fun k v => (h k v).1)
        have b := hle t s m l hm hl (fun k v => (h k v).2)
        omega
      have ev : s.v = t.v := by
        have h1 := (h s.lo s.v).1 (has_cons.2 (.inl ⟨Int.le_refl _, hl.head.1.2.1, rfl⟩))
        rcases has_cons.1 h1 with h2 | h2
        · exact h2.2.2.symm
        · have := has_tail_gt hm h2
          have := hm.head.1.2.1
          omega
      have e2 : s.hi = t.hi := by
        have a := hhi s t l m hl hm e1 ev (fun k v => (h k v).1)
        have b := hhi t s m l hm hl e1.symm ev.symm (fun k v => (h k v).2)
        omega
      have est : s = t := by
        cases s; cases t; simp_all
      subst est
      have hrest : l = m := by
        refine ih hl.tail hm.tail fun k v => ?_
        constructor
        · intro hk
          have g := has_tail_gt hl hk
          rcases has_cons.1 ((h k v).1 (has_cons.2 (.inr hk))) with h2 | h2
          · omega
          · exact h2
        · intro hk
          have g := has_tail_gt hm hk
          rcases has_cons.1 ((h k v).2 (has_cons.2 (.inr hk))) with h2 | h2
          · omega
          · exact h2
      rw [hrest]

/-! ### join, lay -/

/-- A span behind the others; it grows the last one where that touches it and has its value. -/
def join [DecidableEq V] (l : List (Sp V)) (s : Sp V) : List (Sp V) :=
  match l.getLast? with
  | none => [s]
  | some t => if t.hi + 1 = s.lo ∧ t.v = s.v then l.dropLast ++ [⟨t.lo, s.hi, t.v⟩] else l ++ [s]

theorem join_nil [DecidableEq V] (s : Sp V) : join [] s = [s] := rfl

theorem join_snoc [DecidableEq V] (l : List (Sp V)) (t s : Sp V) : join (l ++ [t]) s = if t.hi + 1 = s.lo ∧ t.v = s.v then l ++ [⟨t.lo, s.hi, t.v⟩] else l ++ [t] ++ [s] := by
  unfold join
  simp [List.getLast?_append]

theorem snoc_cases (l : List (Sp V)) : l = [] ∨ ∃ m t, l = m ++ [t] := by
  rcases List.eq_nil_or_concat l with h | ⟨m, t, h⟩
  · exact .inl h
  · exact .inr ⟨m, t, by simpa using h⟩

theorem join_length [DecidableEq V] (l : List (Sp V)) (s : Sp V) : (join l s).length ≤ l.length + 1 := by
  rcases snoc_cases l with rfl | ⟨m, t, rfl⟩
  · simp [join_nil]
  · rw [join_snoc]; split <;> simp

theorem join_has [DecidableEq V] {l : List (Sp V)} {s : Sp V} (hs : s.lo ≤ s.hi) (hl : ∀ t ∈ l, t.lo ≤ t.hi) {k : Int} {v : V} : Has (join l s) k v ↔ Has l k v ∨ (s.lo ≤ k ∧ k ≤ s.hi ∧ s.v = v) := by
  rcases snoc_cases l with rfl | ⟨m, t, rfl⟩
  · rw [join_nil, has_cons]
    constructor
    · rintro (h | h)
      · exact .inr h
      · exact absurd h (has_nil _ _)
    · rintro (h | h)
      · exact absurd h (has_nil _ _)
      · exact .inl h
  · rw [join_snoc]
    have ht := hl t (by simp)
    by_cases hc : t.hi + 1 = s.lo ∧ t.v = s.v
    · rw [if_pos hc, has_append, has_append, has_cons, has_cons]
      obtain ⟨h1, h2⟩ := hc
      have hn := has_nil (V := V) k v
      constructor
      · rintro (h | ⟨a, b, c⟩ | h)
        · exact .inl (.inl h)
        · simp only at a b c
          rcases Int.lt_or_le t.hi k with hk | hk
          · exact .inr ⟨by omega, b, h2.symm.trans c⟩
          · exact .inl (.inr (.inl ⟨a, by omega, c⟩))
        · exact absurd h hn
      · rintro ((h | ⟨a, b, c⟩ | h) | ⟨a, b, c⟩)
        · exact .inl h
        · exact .inr (.inl ⟨a, by show k ≤ s.hi; omega, c⟩)
        · exact absurd h hn
        · exact .inr (.inl ⟨by show t.lo ≤ k; omega, b, h2.trans c⟩)
    · rw [if_neg hc, has_append, has_cons]
      have hn := has_nil (V := V) k v
      constructor
      · rintro (h | h | h)
        · exact .inl h
        · exact .inr h
        · exact absurd h hn
      · rintro (h | h)
        · exact .inl h
        · exact .inr (.inl h)

theorem wf_snoc {m : List (Sp V)} {t : Sp V} : WF (m ++ [t]) ↔ WF m ∧ t.ok ∧ ∀ s ∈ m, R s t := by
  unfold WF
  rw [List.pairwise_append]
  constructor
  · rintro ⟨h1, h2, _, h4⟩
    exact ⟨⟨fun s hs => h1 s (by simp [hs]), h2⟩, h1 t (by simp), fun s hs => h4 s hs t (by simp)⟩
  · rintro ⟨⟨h1, h2⟩, h3, h4⟩
    refine ⟨fun s hs => ?_, h2, by simp, fun s hs u hu => ?_⟩
    · rcases List.mem_append.1 hs with h | h
      · exact h1 s h
      · obtain rfl : s = t := by simpa using h
        exact h3
    · obtain rfl : u = t := by simpa using hu
      exact h4 s hs

theorem join_wf [DecidableEq V] {l : List (Sp V)} {s : Sp V} (hl : WF l) (hs : s.ok) (hb : ∀ t ∈ l, t.hi < s.lo) : WF (join l s) := by
  rcases snoc_cases l with rfl | ⟨m, t, rfl⟩
  · rw [join_nil]
    exact ⟨fun x hx => by obtain rfl : x = s := by simpa using hx
                          exact hs, by simp⟩
  · obtain ⟨hm, ht, hR⟩ := wf_snoc.1 hl
    have htl := hb t (by simp)
    rw [join_snoc]
    by_cases hc : t.hi + 1 = s.lo ∧ t.v = s.v
    · rw [if_pos hc]
      refine wf_snoc.2 ⟨hm, ⟨ht.1, ?_, hs.2.2⟩, fun x hx => ?_⟩
      · show t.lo ≤ s.hi
        have := ht.2.1; have := hs.2.1; omega
      · exact ⟨(hR x hx).1, (hR x hx).2⟩
    · rw [if_neg hc]
      refine wf_snoc.2 ⟨hl, hs, fun x hx => ?_⟩
      have hx1 := hb x hx
      refine ⟨hx1, fun e => ?_⟩
      rcases List.mem_append.1 hx with h | h
      · have := (hR x h).1
        have := ht.2.1
        omega
      · obtain rfl : x = t := by simpa using h
        exact fun ev => hc ⟨e, ev⟩

theorem join_hi [DecidableEq V] {l : List (Sp V)} {s : Sp V} (hs : s.lo ≤ s.hi) (hb : ∀ t ∈ l, t.hi < s.lo) : ∀ t ∈ join l s, t.hi ≤ s.hi := by
  intro t ht
  rcases snoc_cases l with rfl | ⟨m, u, rfl⟩
  · rw [join_nil] at ht
    obtain rfl : t = s := by simpa using ht
    omega
  · rw [join_snoc] at ht
    have hbm : ∀ x ∈ m, x.hi ≤ s.hi := fun x hx => by have := hb x (by simp [hx]); omega
    split at ht
    · rcases List.mem_append.1 ht with h | h
      · exact hbm t h
      · obtain rfl : t = ⟨u.lo, s.hi, u.v⟩ := by simpa using h
        exact Int.le_refl _
    · rcases List.mem_append.1 ht with h | h
      · have := hb t h; omega
      · obtain rfl : t = s := by simpa using h
        exact Int.le_refl _

/-- What stays below a range. -/
def cutL (lo hi : Int) (x : Sp V) : List (Sp V) :=
  if x.hi < lo then [x] else if x.lo > hi then [] else if x.lo < lo then [⟨x.lo, lo - 1, x.v⟩] else []
/-- What stays above a range. -/
def cutR (lo hi : Int) (x : Sp V) : List (Sp V) :=
  if x.hi < lo then [] else if x.lo > hi then [x] else if x.hi > hi then [⟨hi + 1, x.hi, x.v⟩] else []
def lefts (lo hi : Int) (l : List (Sp V)) : List (Sp V) := l.flatMap (cutL lo hi)
def rights (lo hi : Int) (l : List (Sp V)) : List (Sp V) := l.flatMap (cutR lo hi)

def lay [DecidableEq V] (l : List (Sp V)) (lo hi : Int) (s : List (Sp V)) : List (Sp V) := (rights lo hi l).foldl join (s.foldl join (lefts lo hi l))

theorem mem_lefts {lo hi : Int} {l : List (Sp V)} {x : Sp V} : x ∈ lefts lo hi l ↔ ∃ y ∈ l, x ∈ cutL lo hi y := List.mem_flatMap
theorem mem_rights {lo hi : Int} {l : List (Sp V)} {x : Sp V} : x ∈ rights lo hi l ↔ ∃ y ∈ l, x ∈ cutR lo hi y := List.mem_flatMap

theorem mem_cutL {lo hi : Int} {x y : Sp V} (_hlh : lo ≤ hi) (h : x ∈ cutL lo hi y) : x.lo = y.lo ∧ x.v = y.v ∧ x.hi ≤ y.hi ∧ x.hi < lo ∧ (x.hi = y.hi ∨ x.hi = lo - 1) ∧ (y.lo ≤ y.hi → x.lo ≤ x.hi) := by
  unfold cutL at h
  split at h
  · obtain rfl : x = y := by simpa using h
    exact ⟨rfl, rfl, Int.le_refl _, by assumption, .inl rfl, id⟩
  · split at h
    · cases h
    · split at h
      · obtain rfl : x = ⟨y.lo, lo - 1, y.v⟩ := by simpa using h
        exact ⟨rfl, rfl, by simp only; omega, by simp only; omega, .inr rfl, fun _ => by simp only; omega⟩
      · cases h

theorem mem_cutR {lo hi : Int} {x y : Sp V} (_hlh : lo ≤ hi) (h : x ∈ cutR lo hi y) : x.hi = y.hi ∧ x.v = y.v ∧ y.lo ≤ x.lo ∧ hi < x.lo ∧ (x.lo = y.lo ∨ x.lo = hi + 1) ∧ (y.lo ≤ y.hi → x.lo ≤ x.hi) := by
  unfold cutR at h
  split at h
  · cases h
  · split at h
    · obtain rfl : x = y := by simpa using h
      exact ⟨rfl, rfl, Int.le_refl _, by omega, .inl rfl, id⟩
    · split at h
      · obtain rfl : x = ⟨hi + 1, y.hi, y.v⟩ := by simpa using h
        exact ⟨rfl, rfl, by simp only; omega, by simp only; omega, .inr rfl, fun _ => by simp only; omega⟩
      · cases h

theorem cutL_one {lo hi : Int} (y : Sp V) : (cutL lo hi y).length ≤ 1 := by
  unfold cutL; split
  · simp
  · split
    · simp
    · split <;> simp
theorem cutR_one {lo hi : Int} (y : Sp V) : (cutR lo hi y).length ≤ 1 := by
  unfold cutR; split
  · simp
  · split
    · simp
    · split <;> simp

theorem lefts_wf {lo hi : Int} {l : List (Sp V)} (hlh : lo ≤ hi) (h : WF l) : WF (lefts lo hi l) := by
  induction l with
  | nil => exact WF.nil
  | cons y l ih =>
    obtain ⟨h1, h2⟩ := ih h.tail
    obtain ⟨hy, hR⟩ := h.head
    unfold lefts at *
    rw [List.flatMap_cons]
    refine ⟨fun s hs => ?_, List.pairwise_append.2 ⟨?_, h2, fun a ha b hb => ?_⟩⟩
    · rcases List.mem_append.1 hs with hs | hs
      · obtain ⟨a, b, c, d, e, f⟩ := mem_cutL hlh hs
        have := hy.1; have := hy.2.1; have := hy.2.2
        exact ⟨by omega, f hy.2.1, by omega⟩
      · exact h1 s hs
    · have := cutL_one (lo := lo) (hi := hi) y
      match hc : cutL lo hi y with
      | [] => exact .nil
      | [a] => simp
      | a :: b :: r => rw [hc] at this; simp at this
    · obtain ⟨z, hz, hb⟩ := List.mem_flatMap.1 hb
      obtain ⟨a1, a2, a3, a4, a5, a6⟩ := mem_cutL hlh ha
      obtain ⟨b1, b2, b3, b4, b5, b6⟩ := mem_cutL hlh hb
      have hr := hR z hz
      have hbz := b6 (h.tail.1 z hz).2.1
      refine ⟨by have := hr.1; omega, fun e => ?_⟩
      rw [a2, b2]
      exact hr.2 (by have := hr.1; omega)

theorem rights_wf {lo hi : Int} {l : List (Sp V)} (hlh : lo ≤ hi) (h0 : 0 ≤ hi) (h : WF l) : WF (rights lo hi l) := by
  induction l with
  | nil => exact WF.nil
  | cons y l ih =>
    obtain ⟨h1, h2⟩ := ih h.tail
    obtain ⟨hy, hR⟩ := h.head
    unfold rights at *
    rw [List.flatMap_cons]
    refine ⟨fun s hs => ?_, List.pairwise_append.2 ⟨?_, h2, fun a ha b hb => ?_⟩⟩
    · rcases List.mem_append.1 hs with hs | hs
      · obtain ⟨a, b, c, d, e, f⟩ := mem_cutR hlh hs
        have := hy.1; have := hy.2.1; have := hy.2.2
        exact ⟨by omega, f hy.2.1, by omega⟩
      · exact h1 s hs
    · have := cutR_one (lo := lo) (hi := hi) y
      match hc : cutR lo hi y with
      | [] => exact .nil
      | [a] => simp
      | a :: b :: r => rw [hc] at this; simp at this
    · obtain ⟨z, hz, hb⟩ := List.mem_flatMap.1 hb
      obtain ⟨a1, a2, a3, a4, a5, a6⟩ := mem_cutR hlh ha
      obtain ⟨b1, b2, b3, b4, b5, b6⟩ := mem_cutR hlh hb
      have hr := hR z hz
      have hay := a6 hy.2.1
      refine ⟨by have := hr.1; omega, fun e => ?_⟩
      rw [a2, b2]
      exact hr.2 (by have := hr.1; omega)

theorem lefts_has {lo hi : Int} {l : List (Sp V)} (hlh : lo ≤ hi) (_h : WF l) {k : Int} {v : V} : Has (lefts lo hi l) k v ↔ Has l k v ∧ k < lo := by
  constructor
  · rintro ⟨x, hx, h1, h2, h3⟩
    obtain ⟨y, hy, hx⟩ := mem_lefts.1 hx
    obtain ⟨a, b, c, d, e, f⟩ := mem_cutL hlh hx
    exact ⟨⟨y, hy, by omega, by omega, by rw [← b]; exact h3⟩, by omega⟩
  · rintro ⟨⟨y, hy, h1, h2, h3⟩, hk⟩
    by_cases c1 : y.hi < lo
    · exact ⟨y, mem_lefts.2 ⟨y, hy, by unfold cutL; rw [if_pos c1]; simp⟩, h1, h2, h3⟩
    · exact ⟨⟨y.lo, lo - 1, y.v⟩, mem_lefts.2 ⟨y, hy, by unfold cutL; rw [if_neg c1, if_neg (by omega), if_pos (by omega)]; simp⟩, h1, by show k ≤ lo - 1; omega, h3⟩

theorem rights_has {lo hi : Int} {l : List (Sp V)} (hlh : lo ≤ hi) (h : WF l) {k : Int} {v : V} : Has (rights lo hi l) k v ↔ Has l k v ∧ hi < k := by
  constructor
  · rintro ⟨x, hx, h1, h2, h3⟩
    obtain ⟨y, hy, hx⟩ := mem_rights.1 hx
    obtain ⟨a, b, c, d, e, f⟩ := mem_cutR hlh hx
    exact ⟨⟨y, hy, by omega, by omega, by rw [← b]; exact h3⟩, by omega⟩
  · rintro ⟨⟨y, hy, h1, h2, h3⟩, hk⟩
    by_cases c1 : y.lo > hi
    · exact ⟨y, mem_rights.2 ⟨y, hy, by unfold cutR; rw [if_neg (by have := (h.1 y hy).2.1; omega), if_pos c1]; simp⟩, h1, h2, h3⟩
    · exact ⟨⟨hi + 1, y.hi, y.v⟩, mem_rights.2 ⟨y, hy, by unfold cutR; rw [if_neg (by omega), if_neg c1, if_pos (by omega)]; simp⟩, by show hi + 1 ≤ k; omega, h2, h3⟩

/-- Joining on a whole list that lies above. -/
theorem foldl_join [DecidableEq V] {r : List (Sp V)} : ∀ {l : List (Sp V)}, WF l → WF r → (∀ a ∈ l, ∀ b ∈ r, a.hi < b.lo) →
    WF (r.foldl join l) ∧ (∀ k v, Has (r.foldl join l) k v ↔ Has l k v ∨ Has r k v) ∧ (r.foldl join l).length ≤ l.length + r.length := by
  induction r with
  | nil =>
    intro l hl _ _
    refine ⟨hl, fun k v => ?_, by simp⟩
    constructor
    · exact .inl
    · rintro (h | h)
      · exact h
      · exact absurd h (has_nil _ _)
  | cons b r ih =>
    intro l hl hr hab
    obtain ⟨hb, hR⟩ := hr.head
    have hlb : ∀ t ∈ l, t.hi < b.lo := fun t ht => hab t ht b (List.mem_cons_self ..)
    have hj := join_hi hb.2.1 hlb
    obtain ⟨h1, h2, h3⟩ := ih (join_wf hl hb hlb) hr.tail (fun a ha c hc => by
      have := hj a ha
      have := (hR c hc).1
      omega)
    rw [List.foldl_cons]
    refine ⟨h1, fun k v => ?_, ?_⟩
    · rw [h2, join_has hb.2.1 (fun t ht => (hl.1 t ht).2.1), has_cons, or_assoc]
    · have := join_length l b
      simp only [List.length_cons]
      omega

/-- At most one span is cut in two. -/
theorem cut_length {lo hi : Int} {l : List (Sp V)} (hlh : lo ≤ hi) (h : WF l) : (lefts lo hi l).length + (rights lo hi l).length ≤ l.length + 1 := by
  induction l with
  | nil => simp [lefts, rights]
  | cons y l ih =>
    have ih := ih h.tail
    obtain ⟨hy, hR⟩ := h.head
    have e1 : lefts lo hi (y :: l) = cutL lo hi y ++ lefts lo hi l := rfl
    have e2 : rights lo hi (y :: l) = cutR lo hi y ++ rights lo hi l := rfl
    rw [e1, e2, List.length_append, List.length_append, List.length_cons]
    have o1 := cutL_one (lo := lo) (hi := hi) y
    have o2 := cutR_one (lo := lo) (hi := hi) y
    by_cases c : y.lo < lo ∧ hi < y.hi
    · have hl0 : lefts lo hi l = [] := by
        rw [List.eq_nil_iff_forall_not_mem]
        intro x hx
        obtain ⟨z, hz, hx⟩ := mem_lefts.1 hx
        have := (hR z hz).1
        obtain ⟨a, b, c', d, e, f⟩ := mem_cutL hlh hx
        have := f (h.tail.1 z hz).2.1
        omega
      have hr0 : (rights lo hi l).length ≤ l.length := by
        have : ∀ m : List (Sp V), (rights lo hi m).length ≤ m.length := by
          intro m
          induction m with
          | nil => simp [rights]
          | cons z m ihm =>
            have := cutR_one (lo := lo) (hi := hi) z
            have e3 : rights lo hi (z :: m) = cutR lo hi z ++ rights lo hi m := rfl
            rw [e3, List.length_append, List.length_cons]
            omega
        exact this l
      rw [hl0, List.length_nil]
      omega
    · have : (cutL lo hi y).length + (cutR lo hi y).length ≤ 1 := by
        unfold cutL cutR
        by_cases a1 : y.hi < lo
        · simp [a1]
        · by_cases a2 : y.lo > hi
          · simp [a1, a2]
          · by_cases a3 : y.lo < lo
            · have a4 : ¬ y.hi > hi := by omega
              simp [a1, a2, a3, a4]
            · simp [a1, a2, a3]
              split <;> simp
      omega

theorem lefts_snoc (lo hi : Int) (l : List (Sp V)) (x : Sp V) : lefts lo hi (l ++ [x]) = lefts lo hi l ++ cutL lo hi x := by simp [lefts]
theorem rights_snoc (lo hi : Int) (l : List (Sp V)) (x : Sp V) : rights lo hi (l ++ [x]) = rights lo hi l ++ cutR lo hi x := by simp [rights]
theorem take_snoc {α : Type} {l : List α} {k : Nat} {x : α} (h : l[k]? = some x) : l.take (k + 1) = l.take k ++ [x] := by
  obtain ⟨hk, rfl⟩ := List.getElem?_eq_some_iff.1 h
  rw [List.take_succ_eq_append_getElem hk]
theorem lefts_length (lo hi : Int) (l : List (Sp V)) : (lefts lo hi l).length ≤ l.length := by
  induction l with
  | nil => simp [lefts]
  | cons y l ih =>
    have := cutL_one (lo := lo) (hi := hi) y
    have e : lefts lo hi (y :: l) = cutL lo hi y ++ lefts lo hi l := rfl
    rw [e, List.length_append, List.length_cons]; omega
theorem rights_length (lo hi : Int) (l : List (Sp V)) : (rights lo hi l).length ≤ l.length := by
  induction l with
  | nil => simp [rights]
  | cons y l ih =>
    have := cutR_one (lo := lo) (hi := hi) y
    have e : rights lo hi (y :: l) = cutR lo hi y ++ rights lo hi l := rfl
    rw [e, List.length_append, List.length_cons]; omega
theorem WF.take {l : List (Sp V)} (h : WF l) (k : Nat) : WF (l.take k) :=
  ⟨fun s hs => h.1 s (List.mem_of_mem_take hs), h.2.sublist (List.take_sublist k l)⟩
theorem WF.lt {l : List (Sp V)} (h : WF l) {i j : Nat} {s t : Sp V} (hi : l[i]? = some s) (hj : l[j]? = some t) (hij : i < j) : R s t := by
  obtain ⟨hi', rfl⟩ := List.getElem?_eq_some_iff.1 hi
  obtain ⟨hj', rfl⟩ := List.getElem?_eq_some_iff.1 hj
  exact List.pairwise_iff_getElem.1 h.2 i j hi' hj' hij

/-- What stands is below what comes next. -/
theorem foldl_pre [DecidableEq V] {l r : List (Sp V)} (hl : WF l) (hr : WF r) (hab : ∀ a ∈ l, ∀ b ∈ r, a.hi < b.lo) {k : Nat} {s : Sp V} (hs : r[k]? = some s) :
    (∀ t ∈ (r.take k).foldl join l, 0 ≤ t.hi ∧ t.hi < s.lo) ∧ s.lo ≤ top ∧ ((r.take k).foldl join l).length ≤ l.length + k := by
  have hsm : s ∈ r := List.mem_of_getElem? hs
  obtain ⟨h1, h2, h3⟩ := foldl_join hl (hr.take k) (fun a ha b hb => hab a ha b (List.mem_of_mem_take hb))
  refine ⟨fun t ht => ?_, by have := (hr.1 s hsm).2; omega, by have := List.length_take_le k r; omega⟩
  have hok := h1.1 t ht
  refine ⟨by have := hok.1; have := hok.2.1; omega, ?_⟩
  rcases (h2 t.hi t.v).1 ⟨t, ht, hok.2.1, Int.le_refl _, rfl⟩ with ⟨a, ha, q1, q2, _⟩ | ⟨a, ha, q1, q2, _⟩
  · have := hab a ha s hsm; omega
  · obtain ⟨i, hi⟩ := List.getElem?_of_mem ha
    have hik : i < k := by
      have := (List.getElem?_eq_some_iff.1 hi).1
      have := List.length_take_le k r
      omega
    rw [List.getElem?_take_of_lt hik] at hi
    have := (hr.lt hi hs hik).1
    omega

/-- The spans that are laid: one of that range, or none. -/
def laid (lo hi : Int) : Option V → List (Sp V)
  | none => []
  | some v => [⟨lo, hi, v⟩]

theorem lay_spec [DecidableEq V] {l : List (Sp V)} {lo hi : Int} (o : Option V) (h : WF l) (h0 : 0 ≤ lo) (hlh : lo ≤ hi) (ht : hi ≤ top) :
    WF (lay l lo hi (laid lo hi o)) ∧ (∀ k v, Has (lay l lo hi (laid lo hi o)) k v ↔ if lo ≤ k ∧ k ≤ hi then o = some v else Has l k v) ∧
    (lay l lo hi (laid lo hi o)).length ≤ l.length + 2 := by
  have hL := lefts_wf hlh h
  have hRt := rights_wf hlh (by omega) h
  have hS : WF (laid lo hi o) := by
    cases o with
    | none => exact WF.nil
    | some v => exact ⟨fun s hs => by obtain rfl : s = ⟨lo, hi, v⟩ := by simpa [laid] using hs
                                      exact ⟨h0, hlh, ht⟩, by simp [laid]⟩
  have hSm : ∀ s ∈ laid lo hi o, s.lo = lo ∧ s.hi = hi := by
    intro s hs
    cases o with
    | none => cases hs
    | some v => obtain rfl : s = ⟨lo, hi, v⟩ := by simpa [laid] using hs
                exact ⟨rfl, rfl⟩
  have hlm : ∀ a ∈ lefts lo hi l, a.hi < lo := by
    intro a ha
    obtain ⟨y, _, ha⟩ := mem_lefts.1 ha
    exact (mem_cutL hlh ha).2.2.2.1
  have hrm : ∀ a ∈ rights lo hi l, hi < a.lo := by
    intro a ha
    obtain ⟨y, _, ha⟩ := mem_rights.1 ha
    exact (mem_cutR hlh ha).2.2.2.1
  obtain ⟨a1, a2, a3⟩ := foldl_join hL hS (fun a ha b hb => by have := hlm a ha; have := hSm b hb; omega)
  have hmid : ∀ t ∈ (laid lo hi o).foldl join (lefts lo hi l), t.hi ≤ hi := by
    intro t htm
    have hok := a1.1 t htm
    have hh := (a2 t.hi t.v).1 ⟨t, htm, hok.2.1, Int.le_refl _, rfl⟩
    rcases hh with hh | ⟨s, hs, q1, q2, _⟩
    · have := ((lefts_has hlh h).1 hh).2
      omega
    · have := (hSm s hs).2
      omega
  obtain ⟨b1, b2, b3⟩ := foldl_join a1 hRt (fun a ha b hb => by have := hmid a ha; have := hrm b hb; omega)
  have hso : (laid lo hi o).length ≤ 1 := by cases o <;> simp [laid]
  have hc := cut_length (lo := lo) (hi := hi) hlh h
  refine ⟨b1, fun k v => ?_, by unfold lay; omega⟩
  unfold lay
  rw [b2, a2, lefts_has hlh h, rights_has hlh h]
  have hsk : Has (laid lo hi o) k v ↔ (lo ≤ k ∧ k ≤ hi) ∧ o = some v := by
    cases o with
    | none => simp [laid, has_nil]
    | some u =>
      simp only [laid, has_cons, Option.some.injEq]
      constructor
      · rintro (⟨x, y, z⟩ | hn)
        · exact ⟨⟨x, y⟩, z⟩
        · exact absurd hn (has_nil _ _)
      · rintro ⟨⟨x, y⟩, z⟩
        exact .inl ⟨x, y, z⟩
  rw [hsk]
  by_cases c : lo ≤ k ∧ k ≤ hi
  · rw [if_pos c]
    constructor
    · rintro ((⟨_, hh⟩ | ⟨_, hh⟩) | ⟨_, hh⟩)
      · omega
      · exact hh
      · omega
    · exact fun hh => .inl (.inr ⟨c, hh⟩)
  · rw [if_neg c]
    constructor
    · rintro ((⟨hh, _⟩ | ⟨hh, _⟩) | ⟨hh, _⟩)
      · exact hh
      · exact absurd hh c
      · exact hh
    · intro hh
      by_cases c2 : k < lo
      · exact .inl (.inl ⟨hh, c2⟩)
      · exact .inr ⟨hh, by omega⟩

end
end Go.Proofs.Ythkolpjbkbcmbaa.M
