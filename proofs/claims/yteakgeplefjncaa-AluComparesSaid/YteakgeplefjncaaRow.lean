/- From a walk to its row: how the arguments of these statements read, and what a law's row asks behind a call that turns nothing old. -/
import Derived.Test.YteakgeplefjncaaRows
import Derived.Test.YteakgeplefjncaaLeaf
import Derived.ProofKit
import Derived.OpenShut
import Derived.JoinedCond
import Derived.Carry
import Derived.Deep.Slices
import Derived.Deep.Fields
import Derived.ChangeSame
set_option linter.unusedVariables false
set_option linter.unusedSimpArgs false
namespace Go.Proofs.Yteakgeplefjncaa
open Go.RowKit Go.WideShapes Go.ChangeShapes Go.Deep

section
variable {H : Type} {enc : TypeId × Value → H} {P : Program}
/-- The row's last step behind a call of which 'Below' is known. -/
theorem post_below {f : Func} {s : ChangeSpec} {apart fresh handsOn again : Bool} {W W' : World} {args : Array Value} {v : Value} {ds gs : List (DataW H)} {before pa pv : List MemPlace}
    (hW : DataW.Whole enc P f.params.toList s.vars apart W args.toList ds gs before)
    (hres : ∀ (b : Nat) (sp : Nat → Bool) (hd : Bool), DataW.TrodAll enc P W' b sp hd f.resultTypes.toList (v.resultList f.resultTypes.size) (s.fn H (ds ++ gs)).results [])
    (hargs : ∀ sp : Nat → Bool, (∀ p ∈ before, sp p.block = true) → DataW.TrodAll enc P W' 0 sp true f.params.toList args.toList (s.fn H (ds ++ gs)).args pa)
    (hvars : ∀ sp : Nat → Bool, (∀ p ∈ before, sp p.block = true) → DataW.TrodVars enc P W' sp s.vars (s.fn H (ds ++ gs)).vars pv)
    (hps : before = pa ++ pv) (hb : Below W.heap.size W W')
    (hok : ∀ (j : Nat) (t : TypeId) (r : Value), f.resultTypes[j]? = some t → (v.resultList f.resultTypes.size)[j]? = some r → Value.okWide P W' .any 0 t r) :
    s.post enc P f apart fresh handsOn again W args v W' := by
  have hlt : ∀ p ∈ before, p.block < W.heap.size := fun p hp => hW.lt p hp
  have hold : ∀ p ∈ before, (fun b => decide (b < W.heap.size)) p.block = true := fun p hp => by simpa using hlt p hp
  refine ⟨ds, gs, before, [], pa, pv, hW, hres _ _ _, hargs _ hold, hvars _ hold, World.keptBut_mono (fun p hp => ⟨hp, ?_⟩) (hb.frame (· ∈ before)), fun _ => ?_⟩
  · rw [hps, List.mem_append] at hp
    exact Or.inr hp
  · obtain ⟨_, _, _, _, _, hz, hn⟩ := hW
    refine ⟨hok, _, _, ([] ++ pa) ++ pv, ⟨[] ++ pa, pv, trodAll_append (hargs _ (fun _ _ => rfl)) (hres _ _ _), hvars _ (fun _ _ => rfl), rfl, ?_, ?_⟩, ?_⟩
    · intro b off hp
      have hin : MemPlace.cell b off ∈ before := by rw [hps]; simpa using hp
      rw [hb.frozen (hlt _ hin)]
      exact hz b off hin
    · intro ha
      have := hn ha
      rw [hps] at this
      simpa using this
    · intro p hp _
      rw [hps]
      simpa using hp

end

theorem laid_out : laidOutB Try.prog = true := by kernel_rfl

set_option maxRecDepth 100000 in
/-- Behind a law's walk: all that its row asks. -/
theorem law_post {H : Type} {enc : TypeId × Value → H} {f : Func} {s : ChangeSpec} {W W' : World} {args : Array Value} {ds : List (DataW H)} {before : List MemPlace}
    (hsv : s.vars = []) (hW : DataW.Whole enc Try.prog f.params.toList s.vars false W args.toList ds [] before) (hb : Below W.heap.size W W')
    (hfn : s.fn H (ds ++ []) = { results := [.lit (.bool true)], args := ds }) (hpar : (f.params.toList.all fun t => Try.prog.readableRec t && decide (t < Try.prog.types.size)) = true) (hres : f.resultTypes = #[4]) :
    s.post enc Try.prog f false true false false W args (.bool true) W' := by
  have hW' := hW
  obtain ⟨p, q, hA, hV, rfl, hfz, hnd⟩ := hW
  rw [hsv] at hV
  obtain ⟨_, rfl⟩ := trodVars_none hV
  have hlt : ∀ x ∈ p, x.block < W.heap.size := fun x hx => hW'.lt x (by simpa using hx)
  refine post_below (pa := p) (pv := []) hW' (fun b sp hd => ?_) (fun sp hsp => ?_) (fun sp hsp => ?_) rfl hb ?_
  · rw [hfn, hres]
    exact trodAll_mk1 (shut_bool Try.underlying4 _)
  · rw [hfn]
    have key : ∀ (ts : List TypeId) (vs : List Value) (ds : List (DataW H)) (p : List MemPlace), (ts.all fun t => Try.prog.readableRec t && decide (t < Try.prog.types.size)) = true → (∀ x ∈ p, x.block < W.heap.size ∧ sp x.block = true) →
        DataW.TrodAll enc Try.prog W 0 (fun _ => true) true ts vs ds p → DataW.TrodAll enc Try.prog W' 0 sp true ts vs ds p := by
      intro ts
      induction ts with
      | nil =>
        intro vs ds p _ _ h
        obtain ⟨rfl, rfl, rfl⟩ := trodAll_nil h
        exact trodAll_mk0
      | cons t ts ih =>
        intro vs ds p hr hp h
        obtain ⟨v, vs', d, ds', p1, p2, rfl, rfl, rfl, h1, h2⟩ := trodAll_cons h
        simp only [List.all_cons, Bool.and_eq_true, decide_eq_true_eq] at hr
        refine trodAll_cons_mk ?_ (ih vs' ds' p2 hr.2 (fun x hx => hp x (List.mem_append.2 (.inr hx))) h2)
        exact WideElems.Trod_stays laid_out hr.1.1 hr.1.2 h1 (fun x hx => hb.same (hp x (List.mem_append.2 (.inl hx))).1) (fun x hx => (hp x (List.mem_append.2 (.inl hx))).2)
    exact key _ _ _ _ hpar (fun x hx => ⟨hlt x hx, hsp x (by simpa using hx)⟩) hA
  · rw [hsv, hfn]; rfl
  · rw [hres]
    intro j t r hj hr
    match j with
    | 0 =>
      have ht : t = 4 := by simpa using hj.symm
      have hr' : r = .bool true := by simpa [Value.resultList] using hr.symm
      subst ht; subst hr'
      exact okWide_bool_mk Try.underlying4 _
    | j + 1 => simp at hj

/-! ### How the arguments read -/
theorem wf_u32 {n : Int} (h : (Lit.int .u32 n).wf = true) : W32 n := by
  have := bounds_u32 h
  unfold W32
  omega
theorem wf_u64 {n : Int} (h : (Lit.int .u64 n).wf = true) : 0 ≤ n ∧ n < 18446744073709551616 := by
  have := bounds_u64 h
  omega
theorem wf_i64 {n : Int} (h : (Lit.int .i64 n).wf = true) : -9223372036854775808 ≤ n ∧ n ≤ 9223372036854775807 := by
  have := bounds_i64 h
  omega

section
variable {H : Type} {enc : TypeId × Value → H} {W : World}
set_option maxRecDepth 100000 in
theorem open_flags {r : Reach} {b0 : Nat} {v : Value} {d : DataW H} {ps : List MemPlace} (hval : Value.okWide Try.prog W r b0 25 v) (hd : DataW.Trod enc Try.prog W 0 (fun _ => true) true 25 v d ps) : ∃ f : F, v = f.val := by
  obtain ⟨cs, rfl, hcs⟩ := okWide_struct Try.underlying25 hval
  obtain ⟨fuel, hf⟩ := hd
  obtain ⟨xs, n, _, _, hl, hxl, hget⟩ := DataW.trod_struct Try.underlying25 hf
  have c4 : Try.prog.cellsOf 4 = 1 := by kernel_rfl
  have c25 : Try.prog.cellsOf 25 = 4 := by kernel_rfl
  have g0 := hget 0 _ rfl
  have g1 := hget 1 _ rfl
  have g2 := hget 2 _ rfl
  have g3 := hget 3 _ rfl
  change DataW.trod enc Try.prog W 0 (fun _ => true) true n 4 (((Value.agg cs).cells.toList.drop 0).take (Try.prog.cellsOf 4)) = xs[0]? at g0
  rw [c4] at g0
  change DataW.trod enc Try.prog W 0 (fun _ => true) true n 4 (((Value.agg cs).cells.toList.drop 1).take (Try.prog.cellsOf 4)) = xs[1]? at g1
  rw [c4] at g1
  change DataW.trod enc Try.prog W 0 (fun _ => true) true n 4 (((Value.agg cs).cells.toList.drop 2).take (Try.prog.cellsOf 4)) = xs[2]? at g2
  rw [c4] at g2
  change DataW.trod enc Try.prog W 0 (fun _ => true) true n 4 (((Value.agg cs).cells.toList.drop 3).take (Try.prog.cellsOf 4)) = xs[3]? at g3
  rw [c4] at g3
  rw [c25] at hl hcs
  simp only [Value.cells] at hl g0 g1 g2 g3
  have x4 : xs.length = 4 := hxl
  obtain ⟨x0, x1, x2, x3, rfl⟩ : ∃ a b c d, xs = [a, b, c, d] := by
    match xs, x4 with
    | [a, b, c, d], _ => exact ⟨a, b, c, d, rfl⟩
  obtain ⟨l⟩ := cs
  obtain ⟨v0, v1, v2, v3, rfl⟩ : ∃ a b c d, l = [a, b, c, d] := by
    match l, hl with
    | [a, b, c, d], _ => exact ⟨a, b, c, d, rfl⟩
  obtain ⟨n0, e0, _⟩ := DataW.trod_bool Try.underlying4 g0
  obtain ⟨n1, e1, _⟩ := DataW.trod_bool Try.underlying4 g1
  obtain ⟨n2, e2, _⟩ := DataW.trod_bool Try.underlying4 g2
  obtain ⟨n3, e3, _⟩ := DataW.trod_bool Try.underlying4 g3
  simp at e0 e1 e2 e3
  exact ⟨⟨n0, n1, n2, n3⟩, by rw [e0, e1, e2, e3]; rfl⟩
end

theorem own : ownKnob Try.prog.godebug = none := by kernel_rfl
end Go.Proofs.Yteakgeplefjncaa
