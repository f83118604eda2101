/- Proved: the card of the first form: for every image the call ringlaw4.LoadWritten returns true and leaves its argument as it was. The condition: the listed package variables hold what the program's text lays. -/
import Derived.Test.YtdgjcjhdclihpaaDoorCards
import Derived.Test.YtdgjcjhdclihpaaDoorTie
import Derived.Test.YtdgjcjhdclihpaaDoorLawR
import Derived.Test.YtdgjcjhdclihpaaDoorLdH
import Derived.SevenTiedAt
import Derived.Stop.LaidErr
namespace Go.Proofs.YtdgjcjhdclihpaaDoor
open Go.ChangeShapes Go.WideShapes Go.ChangeAt Go.RowKit Go.Joins Go.Deep
set_option linter.unusedVariables false
section
variable {H : Type} {enc : TypeId × Value → H} {w : World} {base : Nat} {held : Bool}
/-- A page as it was read. -/
def PgD (w : World) (d : DataW H) (g : Pg) : Prop := g.fine w w.heap.size ∧ g.n ≤ g.c ∧ g.c ≤ 9223372036854775807 ∧ ∀ R, (∀ m ∈ d.weights Tryd.prog 41, m ≤ R) → g.n ≤ R
theorem pg_open (fu : Nat) (cs : List Value) (y : DataW H × List MemPlace) (h : DataW.trod enc Tryd.prog w base (fun _ => true) held fu 41 cs = some y) (hl : cs.length = 3) : ∃ g : Pg, cs = g.cells ∧ PgD w y.1 g := by
  obtain ⟨xs, n, _, rfl, _, hxl, hf⟩ := DataW.trod_struct Tryd.underlying41 h
  match cs, hl with
  | [v0, v1, v2], _ =>
    have h0 : DataW.trod enc Tryd.prog w base (fun _ => true) held n 3 (([v0, v1, v2].drop 0).take (Tryd.prog.cellsOf 3)) = xs[0]? := hf 0 _ rfl
    have h1 : DataW.trod enc Tryd.prog w base (fun _ => true) held n 3 (([v0, v1, v2].drop 1).take (Tryd.prog.cellsOf 3)) = xs[1]? := hf 1 _ rfl
    have h2 : DataW.trod enc Tryd.prog w base (fun _ => true) held n 26 (([v0, v1, v2].drop 2).take (Tryd.prog.cellsOf 26)) = xs[2]? := hf 2 _ rfl
    rw [show Tryd.prog.cellsOf 3 = 1 by kernel_rfl] at h0 h1
    rw [show Tryd.prog.cellsOf 26 = 1 by kernel_rfl] at h2
    match xs, hxl with
    | [x0, x1, x2], _ =>
      obtain ⟨p, e0, _, hp⟩ := DataW.trod_int Tryd.underlying3 (show DataW.trod enc Tryd.prog w base _ held n 3 _ = some x0 from h0)
      obtain ⟨r, e1, _, hr⟩ := DataW.trod_int Tryd.underlying3 (show DataW.trod enc Tryd.prog w base _ held n 3 _ = some x1 from h1)
      obtain ⟨A, m, c, bs, e2, hrb, hmc, hcm, hwt⟩ := open_ri Tryd.underlying26 Tryd.underlying5 (by kernel_rfl) (show DataW.trod enc Tryd.prog w base _ held n 26 [v2] = some x2 from h2)
      simp at e0 e1
      subst e0; subst e1; subst e2
      have hp' := i64_range hp
      have hr' := i64_range hr
      unfold maxLen at hcm
      refine ⟨⟨p, r, A, m, c, bs⟩, rfl, ⟨hrb.rb, hp', hr', by show m ≤ _; omega⟩, hmc, by show c ≤ _; omega, fun R hR => ?_⟩
      have h5 : m * Tryd.prog.bytesOf 5 ≤ R := hwt R (fun q hq => hR q (by simp [DataW.weights, Tryd.underlying41, DataW.weightsEach, hq]))
      rw [show Tryd.prog.bytesOf 5 = 1 by kernel_rfl, Nat.mul_one] at h5
      exact h5
theorem weights_elem {P : Program} {e : TypeId} {d : DataW H} {m : Nat} (hm : m ∈ d.weights P e) : ∀ {el : List (DataW H)}, d ∈ el → m ∈ DataW.weightsAll P e el
  | x :: r, hd => by
    unfold DataW.weightsAll
    rcases List.mem_cons.1 hd with rfl | hd
    · exact List.mem_append.2 (.inl hm)
    · exact List.mem_append.2 (.inr (weights_elem hm hd))
end
theorem Tryd.own_loadWritten : ownKnob Tryd.prog.godebug = none := by kernel_rfl
theorem Tryd.laidOut_loadWritten : laidOutB Tryd.prog = true := by kernel_rfl
theorem reads_loadWritten (os : Os) {H : Type} (enc : TypeId × Value → H) : ∃ places, DataW.whole enc Tryd.prog ((World.laidAll Tryd.prog os Rows.loadWrittenRow.laid).forCall (fun _ _ => 0) ⟨#[], #[.agg #[.int .u32 0, .slice none 0 0]], []⟩).memory Tryd.f3.params.toList Rows.loadWrittenSpec.vars false #[Value.agg #[.int .u32 0, .slice none 0 0]].toList 8 = some ([.agg [.lit (.int .u32 0), .nil]], [], places) :=
  ⟨[], by kernel_rfl⟩
set_option maxRecDepth 100000 in
theorem loadWritten_lifted (os : Os) (started : os.Started) (H : Type) (enc : TypeId × Value → H) (F : Stop.Interp) :
    ReturnsInHanded {} Tryd.checked os 3 .any ((OpenSpec.ofChange Rows.loadWrittenSpec).preRow enc Tryd.prog Tryd.f3 Rows.loadWrittenRow.domain false Rows.loadWrittenRow.laid) (((OpenSpec.ofChange Rows.loadWrittenSpec).at F).post enc Tryd.prog Tryd.f3 false true false false) := by
  obtain ⟨places, hx⟩ := reads_loadWritten os enc
  refine law_lifted_row (C := Tryd.checked) (s := OpenSpec.ofChange Rows.loadWrittenSpec) Tryd.own_loadWritten started (by kernel_rfl) Tryd.func3
    (witness_row_shaped (enc := enc) (C := Tryd.checked) (World.laidAll Tryd.prog os Rows.loadWrittenRow.laid) #[.agg #[.int .u32 0, .slice none 0 0]] (World.laidAll_os _ _ _)
      (World.shaped_of_ZipB (by kernel_rfl) (by kernel_rfl)) (by kernel_rfl)
      (OpenSpec.preRow_of_cond 8 hx (by kernel_rfl) (fun k hk => by cases hk) (by kernel_rfl) (by rw [MakeChecks.laidMetH_plain _ _ _ (by kernel_rfl)]; exact laidMet_laidAll _ (by kernel_rfl) (by kernel_rfl))))
    Tryd.laidOut_loadWritten (by kernel_rfl) rfl ?_ (tb := 4) (by kernel_rfl) Tryd.underlying4 ?_
  · intro ds h
    match ds, h with
    | [d0], _ => rfl
  · intro W base args ds ps hval0 hA0 hfz hsz0 hcond hlaid hsh
    have hval : ∀ (j : Nat) t v, Tryd.f3.params[j]? = some t → args[j]? = some v → Value.okWide Tryd.prog W .any base t v := hval0
    have hA : DataW.TrodAll enc Tryd.prog W 0 (fun _ => true) true Tryd.f3.params.toList args.toList ds ps := hA0
    have hsz : (DataW.weightsEach Tryd.prog Tryd.f3.params.toList ds).all (· ≤ reachBytes) = true := hsz0
    rw [Tryd.params3] at hA hval hsz
    obtain ⟨v0, d0, rfl, rfl, h0⟩ := trodAll_one hA
    obtain ⟨x0, x1, y0, y1, m, rfl, rfl, rfl, g0, g1⟩ := open_agg2 Tryd.underlying25 (by kernel_rfl) (by kernel_rfl) (hval 0 25 v0 rfl rfl) h0
    obtain ⟨e, ee, _, hew⟩ := DataW.trod_int Tryd.underlying22 g0
    obtain ⟨A, n, c, gs, rfl, hrs, hnc, hcm, hel⟩ := open_recs_d Pg.zero (cl := Pg.cells) (s := 3) (fun _ => rfl) (by omega) (fun d g => PgD W d g) Tryd.underlying23 (by kernel_rfl) pg_open g1
    simp at ee
    subst ee
    have hall : ∀ q ∈ y1.1.weights Tryd.prog 23, q ≤ 140737488351232 := fun q hq => by
      have := List.all_eq_true.1 hsz q (by simp [DataW.weightsEach, DataW.weights, Tryd.underlying25, hq])
      exact of_decide_eq_true this
    have he := u32_range hew
    have key : n * 40 ≤ 140737488355328 ∧ (∀ g ∈ gs, g.fine W W.heap.size) ∧ ∀ g ∈ gs, g.n ≤ 140737488355328 ∧ g.n ≤ g.c ∧ g.c ≤ 9223372036854775807 := by
      rcases hel with ⟨_, rfl⟩ | ⟨el, sp, e1, hn, hal⟩
      · have hps : gs = [] := List.eq_nil_of_length_eq_zero hrs.2
        subst hps
        exact ⟨by omega, fun p hp => (by cases hp), fun p hp => (by cases hp)⟩
      · rw [e1] at hall
        have h1 := hall ((el.length + sp.length) * Tryd.prog.bytesOf 41) (by simp only [DataW.weights, Tryd.underlying23]; exact List.mem_cons_self)
        rw [show Tryd.prog.bytesOf 41 = 40 by kernel_rfl] at h1
        refine ⟨by omega, fun g hg => ?_, fun g hg => ?_⟩
        · obtain ⟨d, _, hd⟩ := hal g hg
          exact hd.1
        · obtain ⟨d, hde, hd⟩ := hal g hg
          refine ⟨?_, hd.2.1, hd.2.2.1⟩
          have := hd.2.2.2 140737488351232 (fun q hq => hall q (by simp only [DataW.weights, Tryd.underlying23]; exact List.mem_cons_of_mem _ (List.mem_append.2 (.inl (weights_elem hq hde)))))
          omega
    exact law_loadWritten e A n c gs W ⟨hrs.1, hrs.2, key.2.1⟩ he ⟨key.1, key.2.2⟩
theorem loadWritten_said : Rows.LoadWrittenSaid :=
  OpenClaim.holds_of_cond 3 Tryd.f3 rfl rfl rfl rfl rfl rfl rfl ⟨rfl, rfl, rfl, rfl, rfl⟩ rfl rfl rfl rfl rfl (by kernel_rfl) Tryd.func3 (by kernel_rfl)
    (of_decide_eq_true (by kernel_rfl)) (by unfold Func.isWrapper; first | (rw [if_pos (by decide +kernel)]; kernel_rfl) | (rw [if_neg (by decide +kernel)]; exact ⟨rfl, rfl⟩))
    (fun os started H enc _ F => by rw [OpenClaim.pre_eq_preRow]; exact loadWritten_lifted os started H enc F)
theorem loadWritten_plain (f : FuncId) (fn : Func) (hf : Tryd.pinned.checked.prog.funcNamed "ringhall/ringlaw4.LoadWritten" = some f) (hfn : Tryd.pinned.checked.prog.funcs[f]? = some fn) :
    false = Tryd.pinned.checked.prog.looks [] ∧ ∀ (j : Nat) t, fn.params[j]? = some t → Tryd.pinned.checked.prog.wantsStandIn t = false := by
  obtain rfl : f = 3 := Option.some.inj ((show Tryd.prog.funcNamed "ringhall/ringlaw4.LoadWritten" = some 3 by kernel_rfl).symm.trans hf) |>.symm
  obtain rfl : fn = Tryd.f3 := (Option.some.inj (Tryd.func3.symm.trans hfn)).symm
  refine ⟨by kernel_rfl, fun j t ht => ?_⟩
  rw [Tryd.params3] at ht
  have hm : t ∈ [25] := by simpa using Array.mem_of_getElem? ht
  have hall : ([25].all fun u => !Tryd.prog.wantsStandIn u) = true := by kernel_rfl
  exact (show Tryd.prog.wantsStandIn t = false by simpa using List.all_eq_true.1 hall t hm)
/-- The card of the first form. -/
theorem loadWritten_holds : Rows.LoadWrittenCardSaid :=
  Claim7.holds_tied_plain_at .later [] _ _ _ _ loadWritten_said (fun _ h => by cases h) (by kernel_rfl) (fun _ h => by cases h) loadWritten_row_tie rfl ⟨rfl, rfl⟩ (by kernel_rfl) rfl loadWritten_plain (by kernel_rfl)
#print axioms loadWritten_holds
end Go.Proofs.YtdgjcjhdclihpaaDoor
