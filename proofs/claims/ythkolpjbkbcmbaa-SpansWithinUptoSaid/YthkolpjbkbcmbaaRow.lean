/- From a walk to its row: how the arguments of these statements read, and what a law's row asks behind a call that turns nothing old. -/
import Derived.Test.YthkolpjbkbcmbaaRows
import Derived.Test.YthkolpjbkbcmbaaOps
import Derived.Test.YthkolpjbkbcmbaaKeys
import Derived.ProofKit
import Derived.OpenShut
import Derived.JoinedCond
import Derived.Carry
import Derived.Deep.Slices
import Derived.Deep.Fields
import Derived.ChangeSame
set_option linter.unusedVariables false
set_option linter.unusedSimpArgs false
namespace Go.Proofs.Ythkolpjbkbcmbaa
open Go.RowKit Go.WideShapes Go.ChangeShapes Go.Deep

section
variable {H : Type} {enc : TypeId × Value → H} {P : Program}
/-- The row's last step behind a call of which 'Below' is known. -/
theorem post_below {f : Func} {s : ChangeSpec} {apart fresh handsOn again : Bool} {W W' : World} {args : Array Value} {v : Value} {ds gs : List (DataW H)} {before pa pv : List MemPlace}
    (hW : DataW.Whole enc P f.params.toList s.vars apart W args.toList ds gs before)
    (hres : ∀ (b : Nat) (sp : Nat → Bool) (hd : Bool), DataW.TrodAll enc P W' b sp hd f.resultTypes.toList (v.resultList f.resultTypes.size) (s.fn H (ds ++ gs)).results [])
    (hargs : ∀ sp : Nat → Bool, (∀ p ∈ before, sp p.block = true) → DataW.TrodAll enc P W' 0 sp true f.params.toList args.toList (s.fn H (ds ++ gs)).args pa)
    (hvars : ∀ sp : Nat → Bool, (∀ p ∈ before, sp p.block = true) → DataW.TrodVars enc P W' sp s.vars (s.fn H (ds ++ gs)).vars pv)
    (hps : before = pa ++ pv) (hb : Below W.heap.size W W')
    (hok : ∀ (j : Nat) (t : TypeId) (r : Value), f.resultTypes[j]? = some t → (v.resultList f.resultTypes.size)[j]? = some r → Value.okWide P W' .any 0 t r) :
    s.post enc P f apart fresh handsOn again W args v W' := by
  have hlt : ∀ p ∈ before, p.block < W.heap.size := fun p hp => hW.lt p hp
  have hold : ∀ p ∈ before, (fun b => decide (b < W.heap.size)) p.block = true := fun p hp => by simpa using hlt p hp
  refine ⟨ds, gs, before, [], pa, pv, hW, hres _ _ _, hargs _ hold, hvars _ hold, World.keptBut_mono (fun p hp => ⟨hp, ?_⟩) (hb.frame (· ∈ before)), fun _ => ?_⟩
  · rw [hps, List.mem_append] at hp
    exact Or.inr hp
  · obtain ⟨_, _, _, _, _, hz, hn⟩ := hW
    refine ⟨hok, _, _, ([] ++ pa) ++ pv, ⟨[] ++ pa, pv, trodAll_append (hargs _ (fun _ _ => rfl)) (hres _ _ _), hvars _ (fun _ _ => rfl), rfl, ?_, ?_⟩, ?_⟩
    · intro b off hp
      have hin : MemPlace.cell b off ∈ before := by rw [hps]; simpa using hp
      rw [hb.frozen (hlt _ hin)]
      exact hz b off hin
    · intro ha
      have := hn ha
      rw [hps] at this
      simpa using this
    · intro p hp _
      rw [hps]
      simpa using hp

/-- A slice of structs of one-cell fields, opened to its cells. -/
theorem open_struct_slice {w : World} {base : Nat} {spare : Nat → Bool} {held : Bool} {t e : TypeId} {fs : Array Field} {fuel : Nat} {cs : List Value} {x : DataW H × List MemPlace} (ht : P.underlying t = some (.slice e)) (he : P.underlying e = some (.struct fs))
    (hone : oneCellFields P fs = true) (hC : P.cellsOf e = fs.size) (h : DataW.trod enc P w base spare held fuel t cs = some x) :
    (cs = [.slice none 0 0] ∧ x = (.nil, [])) ∨
    ∃ (a : Addr) (len cap m : Nat) (D : Nat → DataW H) (Pl : Nat → List MemPlace), cs = [.slice (some a) len cap] ∧ base ≤ a.block ∧ len ≤ cap ∧ cap ≤ maxLen ∧ m = (if spare a.block then cap else len) ∧
      x = (.slice ((List.range len).map D) ((List.range (m - len)).map fun j => D (len + j)), MemPlace.row a (m * fs.size) ++ (List.range m).flatMap Pl) ∧
      ∀ i, i < m → ∃ n, ∀ (j : Nat) (f : Field), fs[j]? = some f → ∃ (v : Value) (y : DataW H × List MemPlace), w.cell? (a.add (i * fs.size + j)) = some v ∧ DataW.trod enc P w base spare held n f.type [v] = some y := by
  rcases open_slice ht h with h0 | ⟨a, len, cap, m, n, D, Pl, hcs, hb, hl, hm, hmm, hx, hi⟩
  · exact .inl h0
  · refine .inr ⟨a, len, cap, m, D, Pl, hcs, hb, hl, hm, hmm, by rw [hC] at hx; exact hx, fun i him => ?_⟩
    obtain ⟨cs', hc, ht'⟩ := hi i him
    rw [hC] at hc
    obtain ⟨ys, n', hn', hy, hlen, hyl, hf⟩ := DataW.trod_struct he ht'
    obtain ⟨_, hcl, hat⟩ := World.cells?_some hc
    refine ⟨n', fun j f hj => ?_⟩
    obtain ⟨ho, hk⟩ := hone_of hone j f hj
    have hjl : j < fs.size := (Array.getElem?_eq_some_iff.1 hj).1
    have hcell := hat j hjl
    have hv : cs'[j]? = some (cs'[j]'(by omega)) := List.getElem?_eq_getElem (by omega)
    have h1 := hf j f hj
    rw [ho, hk] at h1
    have hone' : (cs'.drop j).take 1 = [cs'[j]'(by omega)] := by
      rw [List.drop_eq_getElem_cons (by omega)]
      rfl
    rw [hone'] at h1
    have hys : ys[j]? = some (ys[j]'(by omega)) := List.getElem?_eq_getElem (by omega)
    refine ⟨_, _, ?_, h1.trans hys⟩
    rw [← Go.Deep.add_add, hcell, hv]
end

theorem laid_out : laidOutB Try.prog = true := by kernel_rfl

set_option maxRecDepth 100000 in
/-- Behind a law's walk: all that its row asks. -/
theorem law_post {H : Type} {enc : TypeId × Value → H} {f : Func} {s : ChangeSpec} {W W' : World} {args : Array Value} {ds : List (DataW H)} {before : List MemPlace}
    (hsv : s.vars = []) (hW : DataW.Whole enc Try.prog f.params.toList s.vars false W args.toList ds [] before) (hb : Below W.heap.size W W')
    (hfn : s.fn H (ds ++ []) = { results := [.lit (.bool true)], args := ds }) (hpar : (f.params.toList.all fun t => Try.prog.readableRec t && decide (t < Try.prog.types.size)) = true) (hres : f.resultTypes = #[4]) :
    s.post enc Try.prog f false true false false W args (.bool true) W' := by
  have hW' := hW
  obtain ⟨p, q, hA, hV, rfl, hfz, hnd⟩ := hW
  rw [hsv] at hV
  obtain ⟨_, rfl⟩ := trodVars_none hV
  have hlt : ∀ x ∈ p, x.block < W.heap.size := fun x hx => hW'.lt x (by simpa using hx)
  refine post_below (pa := p) (pv := []) hW' (fun b sp hd => ?_) (fun sp hsp => ?_) (fun sp hsp => ?_) rfl hb ?_
  · rw [hfn, hres]
    exact trodAll_mk1 (shut_bool Try.underlying4 _)
  · rw [hfn]
    have key : ∀ (ts : List TypeId) (vs : List Value) (ds : List (DataW H)) (p : List MemPlace), (ts.all fun t => Try.prog.readableRec t && decide (t < Try.prog.types.size)) = true → (∀ x ∈ p, x.block < W.heap.size ∧ sp x.block = true) →
        DataW.TrodAll enc Try.prog W 0 (fun _ => true) true ts vs ds p → DataW.TrodAll enc Try.prog W' 0 sp true ts vs ds p := by
      intro ts
      induction ts with
      | nil =>
        intro vs ds p _ _ h
        obtain ⟨rfl, rfl, rfl⟩ := trodAll_nil h
        exact trodAll_mk0
      | cons t ts ih =>
        intro vs ds p hr hp h
        obtain ⟨v, vs', d, ds', p1, p2, rfl, rfl, rfl, h1, h2⟩ := trodAll_cons h
        simp only [List.all_cons, Bool.and_eq_true, decide_eq_true_eq] at hr
        refine trodAll_cons_mk ?_ (ih vs' ds' p2 hr.2 (fun x hx => hp x (List.mem_append.2 (.inr hx))) h2)
        exact WideElems.Trod_stays laid_out hr.1.1 hr.1.2 h1 (fun x hx => hb.same (hp x (List.mem_append.2 (.inl hx))).1) (fun x hx => (hp x (List.mem_append.2 (.inl hx))).2)
    exact key _ _ _ _ hpar (fun x hx => ⟨hlt x hx, hsp x (by simpa using hx)⟩) hA
  · rw [hsv, hfn]; rfl
  · rw [hres]
    intro j t r hj hr
    match j with
    | 0 =>
      have ht : t = 4 := by simpa using hj.symm
      have hr' : r = .bool true := by simpa [Value.resultList] using hr.symm
      subst ht; subst hr'
      exact okWide_bool_mk Try.underlying4 _
    | j + 1 => simp at hj

/-! ### How the arguments read -/

theorem wf_u64 {n : Int} (h : (Lit.int .u64 n).wf = true) : 0 ≤ n ∧ n ≤ M.top := by
  have := bounds_u64 h
  unfold M.top
  omega
theorem wf_i64 {n : Int} (h : (Lit.int .i64 n).wf = true) : -9223372036854775808 ≤ n ∧ n ≤ 9223372036854775807 := by
  have := bounds_i64 h
  omega

section
variable {H : Type} {enc : TypeId × Value → H} {W : World}

theorem bulk_one (d : DataW H) : 1 ≤ Rows.uptoBulk d := by
  cases d with
  | lit l => cases l <;> simp [Rows.uptoBulk]
  | nil => simp [Rows.uptoBulk]
  | ptr d => simp [Rows.uptoBulk]
  | slice elems spare => simp [Rows.uptoBulk]
  | agg parts => simp [Rows.uptoBulk]
  | iface t d => simp [Rows.uptoBulk]
  | map entries => simp [Rows.uptoBulk]
  | held h => simp [Rows.uptoBulk]
theorem bulk_length (l : List (DataW H)) : l.length ≤ Rows.uptoBulkAll l := by
  induction l with
  | nil => simp [Rows.uptoBulkAll]
  | cons x r ih => have := bulk_one x; simp only [Rows.uptoBulkAll, List.length_cons]; omega
theorem bulk_slice (elems spare : List (DataW H)) : elems.length ≤ Rows.uptoBulk (.slice elems spare) := by
  have h1 := bulk_length elems
  simp only [Rows.uptoBulk]
  omega

set_option maxRecDepth 100000 in
/-- A script that came in. -/
theorem open_script {r : Reach} {b0 : Nat} {v : Value} {d : DataW H} {ps : List MemPlace} (hval : Value.okWide Try.prog W r b0 22 v) (hd : DataW.Trod enc Try.prog W 0 (fun _ => true) true 22 v d ps) :
    ∃ (A : Option Addr) (n c : Nat) (l : List Opn), v = .slice A n c ∧ l.length = n ∧ Script W A c l ∧ n ≤ Rows.uptoBulk d := by
  obtain ⟨A, n, c, rfl⟩ := okWide_slice Try.underlying22 hval
  obtain ⟨fuel, hf⟩ := hd
  rcases open_struct_slice Try.underlying22 Try.underlying29 (by kernel_rfl) (by kernel_rfl) hf with ⟨h1, h2⟩ | ⟨a, len, cap, m, D, Pl, hcs, hb, hl, hm, hmm, hx, hi⟩
  · have h1' : Value.slice A n c = .slice none 0 0 := by simpa [Value.cells] using h1
    injection h1' with hA hn hc
    subst hA; subst hn; subst hc
    exact ⟨none, 0, 0, [], rfl, rfl, ⟨by simp, by omega, by simp, by simp⟩, Nat.zero_le _⟩
  · have h1' : Value.slice A n c = .slice (some a) len cap := by simpa [Value.cells] using hcs
    injection h1' with hA hn hc
    subst hA; subst hn; subst hc
    have hmc : m = c := by simpa using hmm
    have key : ∀ i, ∃ o : Opn, i < n → o.ok ∧ ∃ b off, a = ⟨b, off, none⟩ ∧ b < W.heap.size ∧
        W.cell? ⟨b, off + i * 4, none⟩ = some (.int .i64 o.kind) ∧ W.cell? ⟨b, off + i * 4 + 1, none⟩ = some (.int .u64 o.lo) ∧ W.cell? ⟨b, off + i * 4 + 2, none⟩ = some (.int .u64 o.hi) ∧ W.cell? ⟨b, off + i * 4 + 3, none⟩ = some (.int .i64 o.val) := by
      intro i
      by_cases hin : i < n
      · obtain ⟨nf, hff⟩ := hi i (by omega)
        obtain ⟨v0, y0, c0, t0⟩ := hff 0 _ rfl
        obtain ⟨v1, y1, c1, t1⟩ := hff 1 _ rfl
        obtain ⟨v2, y2, c2, t2⟩ := hff 2 _ rfl
        obtain ⟨v3, y3, c3, t3⟩ := hff 3 _ rfl
        obtain ⟨z0, e0, _, w0⟩ := DataW.trod_int Try.underlying3 t0
        obtain ⟨z1, e1, _, w1⟩ := DataW.trod_int Try.underlying27 t1
        obtain ⟨z2, e2, _, w2⟩ := DataW.trod_int Try.underlying27 t2
        obtain ⟨z3, e3, _, w3⟩ := DataW.trod_int Try.underlying3 t3
        simp only [List.cons.injEq, and_true] at e0 e1 e2 e3
        subst e0; subst e1; subst e2; subst e3
        obtain ⟨b, off, spot⟩ := a
        obtain ⟨nf0, hff0⟩ := hi 0 (by omega)
        obtain ⟨u0, _, k0, _⟩ := hff0 0 _ rfl
        have hspot : spot = none := by simpa [Addr.add] using World.cell?_spot k0
        subst hspot
        have hsz : (#[{ name := "Kind", type := 3, offset := 0, embedded := false, tag := "", pkgPath := "", byteOffset := 0 }, { name := "Lo", type := 27, offset := 1, embedded := false, tag := "", pkgPath := "", byteOffset := 8 }, { name := "Hi", type := 27, offset := 2, embedded := false, tag := "", pkgPath := "", byteOffset := 16 }, { name := "Val", type := 3, offset := 3, embedded := false, tag := "", pkgPath := "", byteOffset := 24 }] : Array Field).size = 4 := rfl
        rw [hsz] at c0 c1 c2 c3
        rw [add_plain] at c0 c1 c2 c3
        refine ⟨⟨z0, z1, z2, z3⟩, fun _ => ⟨⟨(wf_u64 w1).1, (wf_u64 w1).2, (wf_u64 w2).1, (wf_u64 w2).2, (wf_i64 w0).1, (wf_i64 w0).2, (wf_i64 w3).1, (wf_i64 w3).2⟩, b, off, rfl, World.block_lt_of_cell? W _ c0, c0, c1, c2, c3⟩⟩
      · exact ⟨⟨0, 0, 0, 0⟩, fun h => absurd h hin⟩
    let f : Nat → Opn := fun i => Classical.choose (key i)
    have hfs : ∀ i, i < n → _ := fun i => Classical.choose_spec (key i)
    have hget : ∀ i o, ((List.range n).map f)[i]? = some o → i < n ∧ o = f i := by
      intro i o ho
      rw [List.getElem?_map] at ho
      obtain ⟨j, hj, rfl⟩ := Option.map_eq_some_iff.1 ho
      obtain ⟨hlt, rfl⟩ := List.getElem?_eq_some_iff.1 hj
      have hlt' : i < n := by simpa using hlt
      exact ⟨hlt', by simp⟩
    refine ⟨some a, n, c, (List.range n).map f, rfl, by simp, ⟨by simpa using hl, by unfold maxLen at hm; omega, ?_, ?_⟩, ?_⟩
    · intro o ho
      obtain ⟨i, hi⟩ := List.getElem?_of_mem ho
      obtain ⟨hlt, rfl⟩ := hget i o hi
      exact (hfs i hlt).1
    · intro i o ho
      obtain ⟨hlt, rfl⟩ := hget i o ho
      obtain ⟨_, b, off, e, r⟩ := hfs i hlt
      exact ⟨b, off, by rw [e], r⟩
    · injection hx with hx _
      rw [hx]
      have := bulk_slice ((List.range n).map D) ((List.range (m - n)).map fun j => D (n + j))
      simpa using this

set_option maxRecDepth 100000 in
/-- A list of keys that came in. -/
theorem open_keys {r : Reach} {b0 : Nat} {v : Value} {d : DataW H} {ps : List MemPlace} (hval : Value.okWide Try.prog W r b0 23 v) (hd : DataW.Trod enc Try.prog W 0 (fun _ => true) true 23 v d ps) :
    ∃ (A : Option Addr) (n c : Nat) (l : List Int), v = .slice A n c ∧ KeysAt W A n c l ∧ n ≤ Rows.uptoBulk d := by
  obtain ⟨A, n, c, rfl⟩ := okWide_slice Try.underlying23 hval
  obtain ⟨fuel, hf⟩ := hd
  rcases open_ints Try.underlying23 Try.underlying27 (by kernel_rfl) hf with ⟨h1, h2⟩ | ⟨a, len, cap, zs, hcs, hb, hl, hm, hmm, hx, hi, hw⟩
  · have h1' : Value.slice A n c = .slice none 0 0 := by simpa [Value.cells] using h1
    injection h1' with hA hn hc
    subst hA; subst hn; subst hc
    exact ⟨none, 0, 0, [], rfl, ⟨by simp, rfl, .inl ⟨rfl, rfl, rfl⟩⟩, Nat.zero_le _⟩
  · have h1' : Value.slice A n c = .slice (some a) len cap := by simpa [Value.cells] using hcs
    injection h1' with hA hn hc
    subst hA; subst hn; subst hc
    have hmc : zs.length = c := by simpa using hmm
    have hlt : 0 < n → a.block < W.heap.size := fun hn => by
      have := World.block_lt_of_cell? W _ (hi 0 (by omega))
      rwa [add_block] at this
    refine ⟨some a, n, c, zs.take n, rfl, ⟨fun x hx => wf_u64 (hw x (List.mem_of_mem_take hx)), by simp; omega, .inr ⟨a, rfl, hlt, ?_⟩⟩, ?_⟩
    · intro j u hu
      rw [List.getElem?_map] at hu
      obtain ⟨z, hz, rfl⟩ := Option.map_eq_some_iff.1 hu
      obtain ⟨hj, rfl⟩ := List.getElem?_eq_some_iff.1 hz
      have hj' : j < n := by have := hj; simp at this; omega
      rw [hi j (by omega)]
      simp [List.getD_eq_getElem?_getD, List.getElem?_eq_getElem (show j < zs.length by omega)]
    · injection hx with hx _
      rw [hx]
      have := bulk_slice (H := H) (lits .u64 (zs.take n)) (lits .u64 (zs.drop n))
      have e : (lits (H := H) .u64 (zs.take n)).length = n := by simp only [lits, List.length_map, List.length_take]; omega
      rw [e] at this
      exact this
set_option maxRecDepth 100000 in
/-- A list of numbers that came in. -/
theorem open_order {r : Reach} {b0 : Nat} {v : Value} {d : DataW H} {ps : List MemPlace} (hval : Value.okWide Try.prog W r b0 85 v) (hd : DataW.Trod enc Try.prog W 0 (fun _ => true) true 85 v d ps) :
    ∃ (A : Option Addr) (n c : Nat) (l : List Int), v = .slice A n c ∧ IntsAt W A n c l ∧ n ≤ Rows.uptoBulk d := by
  obtain ⟨A, n, c, rfl⟩ := okWide_slice Try.underlying85 hval
  obtain ⟨fuel, hf⟩ := hd
  rcases open_ints Try.underlying85 Try.underlying3 (by kernel_rfl) hf with ⟨h1, h2⟩ | ⟨a, len, cap, zs, hcs, hb, hl, hm, hmm, hx, hi, hw⟩
  · have h1' : Value.slice A n c = .slice none 0 0 := by simpa [Value.cells] using h1
    injection h1' with hA hn hc
    subst hA; subst hn; subst hc
    exact ⟨none, 0, 0, [], rfl, ⟨by simp, rfl, .inl ⟨rfl, rfl, rfl⟩⟩, Nat.zero_le _⟩
  · have h1' : Value.slice A n c = .slice (some a) len cap := by simpa [Value.cells] using hcs
    injection h1' with hA hn hc
    subst hA; subst hn; subst hc
    have hmc : zs.length = c := by simpa using hmm
    have hlt : 0 < n → a.block < W.heap.size := fun hn => by
      have := World.block_lt_of_cell? W _ (hi 0 (by omega))
      rwa [add_block] at this
    refine ⟨some a, n, c, zs.take n, rfl, ⟨fun x hx => wf_i64 (hw x (List.mem_of_mem_take hx)), by simp; omega, .inr ⟨a, rfl, hlt, ?_⟩⟩, ?_⟩
    · intro j u hu
      rw [List.getElem?_map] at hu
      obtain ⟨z, hz, rfl⟩ := Option.map_eq_some_iff.1 hu
      obtain ⟨hj, rfl⟩ := List.getElem?_eq_some_iff.1 hz
      have hj' : j < n := by have := hj; simp at this; omega
      rw [hi j (by omega)]
      simp [List.getD_eq_getElem?_getD, List.getElem?_eq_getElem (show j < zs.length by omega)]
    · injection hx with hx _
      rw [hx]
      have := bulk_slice (H := H) (lits .i64 (zs.take n)) (lits .i64 (zs.drop n))
      have e : (lits (H := H) .i64 (zs.take n)).length = n := by simp only [lits, List.length_map, List.length_take]; omega
      rw [e] at this
      exact this
end

end Go.Proofs.Ythkolpjbkbcmbaa
