/- Proved: the card of the first form: for every slice of bytes the call ringlaw4.LoadRead returns true and leaves its argument as it was. The condition: the listed package variables hold what the program's text lays. -/
import Derived.Test.YtdgjcjhdclihpaaDoorCards
import Derived.Test.YtdgjcjhdclihpaaDoorTie
import Derived.Test.YtdgjcjhdclihpaaDoorLawR
import Derived.Test.YtdgjcjhdclihpaaDoorLrF
import Derived.SevenTiedAt
import Derived.Stop.LaidErr
namespace Go.Proofs.YtdgjcjhdclihpaaDoor
open Go.ChangeShapes Go.WideShapes Go.ChangeAt Go.RowKit Go.Joins Go.Deep
set_option linter.unusedVariables false
theorem Tryd.own_loadRead : ownKnob Tryd.prog.godebug = none := by kernel_rfl
theorem Tryd.laidOut_loadRead : laidOutB Tryd.prog = true := by kernel_rfl
theorem reads_loadRead (os : Os) {H : Type} (enc : TypeId × Value → H) : ∃ places, DataW.whole enc Tryd.prog ((World.laidAll Tryd.prog os Rows.loadReadRow.laid).forCall (fun _ _ => 0) ⟨#[], #[.slice none 0 0], []⟩).memory Tryd.f4.params.toList Rows.loadReadSpec.vars false #[Value.slice none 0 0].toList 8 = some ([.nil], [], places) :=
  ⟨[], by kernel_rfl⟩
set_option maxRecDepth 100000 in
theorem loadRead_lifted (os : Os) (started : os.Started) (H : Type) (enc : TypeId × Value → H) (F : Stop.Interp) :
    ReturnsInHanded {} Tryd.checked os 4 .any ((OpenSpec.ofChange Rows.loadReadSpec).preRow enc Tryd.prog Tryd.f4 Rows.loadReadRow.domain false Rows.loadReadRow.laid) (((OpenSpec.ofChange Rows.loadReadSpec).at F).post enc Tryd.prog Tryd.f4 false true false false) := by
  obtain ⟨places, hx⟩ := reads_loadRead os enc
  refine law_lifted_row (C := Tryd.checked) (s := OpenSpec.ofChange Rows.loadReadSpec) Tryd.own_loadRead started (by kernel_rfl) Tryd.func4
    (witness_row_shaped (enc := enc) (C := Tryd.checked) (World.laidAll Tryd.prog os Rows.loadReadRow.laid) #[.slice none 0 0] (World.laidAll_os _ _ _)
      (World.shaped_of_ZipB (by kernel_rfl) (by kernel_rfl)) (by kernel_rfl)
      (OpenSpec.preRow_of_cond 8 hx (by kernel_rfl) (fun k hk => by cases hk) (by kernel_rfl) (by rw [MakeChecks.laidMetH_plain _ _ _ (by kernel_rfl)]; exact laidMet_laidAll _ (by kernel_rfl) (by kernel_rfl))))
    Tryd.laidOut_loadRead (by kernel_rfl) rfl ?_ (tb := 4) (by kernel_rfl) Tryd.underlying4 ?_
  · intro ds h
    match ds, h with
    | [d0], _ => rfl
  · intro W base args ds ps hval0 hA0 hfz hsz0 hcond hlaid hsh
    have hval : ∀ (j : Nat) t v, Tryd.f4.params[j]? = some t → args[j]? = some v → Value.okWide Tryd.prog W .any base t v := hval0
    have hA : DataW.TrodAll enc Tryd.prog W 0 (fun _ => true) true Tryd.f4.params.toList args.toList ds ps := hA0
    have hsz : (DataW.weightsEach Tryd.prog Tryd.f4.params.toList ds).all (· ≤ reachBytes) = true := hsz0
    rw [Tryd.params4] at hA hval hsz
    obtain ⟨v0, d0, rfl, rfl, h0⟩ := trodAll_one hA
    obtain ⟨fu, h0⟩ := h0
    obtain ⟨aa0, nn0, cc0, rfl⟩ := okWide_slice Tryd.underlying26 (hval 0 26 v0 rfl rfl)
    obtain ⟨A, n, c, xs, e0, hr, hnc, hcm, _⟩ := open_ri Tryd.underlying26 Tryd.underlying5 (by kernel_rfl) (v := .slice aa0 nn0 cc0) (by simpa [Value.cells] using h0)
    rw [e0]
    exact law_loadRead A n c xs W hr.rb hnc (by unfold maxLen at hcm; omega)
theorem loadRead_said : Rows.LoadReadSaid :=
  OpenClaim.holds_of_cond 4 Tryd.f4 rfl rfl rfl rfl rfl rfl rfl ⟨rfl, rfl, rfl, rfl, rfl⟩ rfl rfl rfl rfl rfl (by kernel_rfl) Tryd.func4 (by kernel_rfl)
    (of_decide_eq_true (by kernel_rfl)) (by unfold Func.isWrapper; first | (rw [if_pos (by decide +kernel)]; kernel_rfl) | (rw [if_neg (by decide +kernel)]; exact ⟨rfl, rfl⟩))
    (fun os started H enc _ F => by rw [OpenClaim.pre_eq_preRow]; exact loadRead_lifted os started H enc F)
theorem loadRead_plain (f : FuncId) (fn : Func) (hf : Tryd.pinned.checked.prog.funcNamed "ringhall/ringlaw4.LoadRead" = some f) (hfn : Tryd.pinned.checked.prog.funcs[f]? = some fn) :
    false = Tryd.pinned.checked.prog.looks [] ∧ ∀ (j : Nat) t, fn.params[j]? = some t → Tryd.pinned.checked.prog.wantsStandIn t = false := by
  obtain rfl : f = 4 := Option.some.inj ((show Tryd.prog.funcNamed "ringhall/ringlaw4.LoadRead" = some 4 by kernel_rfl).symm.trans hf) |>.symm
  obtain rfl : fn = Tryd.f4 := (Option.some.inj (Tryd.func4.symm.trans hfn)).symm
  refine ⟨by kernel_rfl, fun j t ht => ?_⟩
  rw [Tryd.params4] at ht
  have hm : t ∈ [26] := by simpa using Array.mem_of_getElem? ht
  have hall : ([26].all fun u => !Tryd.prog.wantsStandIn u) = true := by kernel_rfl
  exact (show Tryd.prog.wantsStandIn t = false by simpa using List.all_eq_true.1 hall t hm)
/-- The card of the first form. -/
theorem loadRead_holds : Rows.LoadReadCardSaid :=
  Claim7.holds_tied_plain_at .later [] _ _ _ _ loadRead_said (fun _ h => by cases h) (by kernel_rfl) (fun _ h => by cases h) loadRead_row_tie rfl ⟨rfl, rfl⟩ (by kernel_rfl) rfl loadRead_plain (by kernel_rfl)
#print axioms loadRead_holds
end Go.Proofs.YtdgjcjhdclihpaaDoor
