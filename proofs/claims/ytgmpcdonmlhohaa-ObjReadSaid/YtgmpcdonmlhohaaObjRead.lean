/- Proved: for every row of bytes the call ringlaw4.ObjRead returns true and leaves its argument as it was. No condition. -/
import Derived.Test.YtgmpcdonmlhohaaRows
import Derived.Test.YtgmpcdonmlhohaaRecs
import Derived.Test.YtgmpcdonmlhohaaOrN
namespace Go.Proofs.Ytgmpcdonmlhohaa
open Go.ChangeShapes Go.WideShapes Go.ChangeAt Go.RowKit Go.Joins Go.Deep
set_option linter.unusedVariables false
theorem Try.own_objRead : ownKnob Try.prog.godebug = none := by kernel_rfl
theorem Try.laidOut_objRead : laidOutB Try.prog = true := by kernel_rfl

set_option maxRecDepth 100000 in
theorem objRead_lifted (os : Os) (started : os.Started) (H : Type) (enc : TypeId × Value → H) :
    ReturnsInHanded {} Try.checked os 7 .any (Rows.objReadSpec.pre6 enc Try.prog Try.f7 Rows.objReadRow.domain false) (Rows.objReadSpec.post enc Try.prog Try.f7 false true false false) := by
  refine law_lifted (C := Try.checked) Try.own_objRead started (by kernel_rfl) Try.func7
    (ChangeSpec.witness6 (enc := enc) (C := Try.checked) false ⟨#[], #[.slice none 0 0], []⟩ 8 (by kernel_rfl) (by kernel_rfl) (by kernel_rfl) (by kernel_rfl))
    Try.laidOut_objRead (by kernel_rfl) rfl ?_ (tb := 4) (by kernel_rfl) Try.underlying4 ?_
  · intro ds h
    match ds, h with
    | [d0], _ => rfl
  · intro W base args ds ps hval0 hA0 hfz hsz0
    have hval : ∀ (j : Nat) t v, Try.f7.params[j]? = some t → args[j]? = some v → Value.okWide Try.prog W .any base t v := hval0
    have hA : DataW.TrodAll enc Try.prog W 0 (fun _ => true) true Try.f7.params.toList args.toList ds ps := hA0
    have hsz : (DataW.weightsEach Try.prog Try.f7.params.toList ds).all (· ≤ reachBytes) = true := hsz0
    rw [Try.params7] at hA hval hsz
    obtain ⟨v0, d0, rfl, rfl, h0⟩ := trodAll_one hA
    obtain ⟨a0, n0, c0, rfl⟩ := okWide_slice Try.underlying35 (hval 0 35 v0 rfl rfl)
    obtain ⟨fuel, hf⟩ := h0
    obtain ⟨A, n, c, xs, hv, hr, hnc, hcm, hw⟩ := open_ri Try.underlying35 Try.underlying5 (by kernel_rfl) (by simpa [Value.cells] using hf)
    rw [hv]
    exact law_objRead A n c xs W hr.rb hnc hcm

theorem objRead_holds : Rows.ObjReadSaid :=
  OpenClaim.holds_of_wide 7 Try.f7 rfl rfl rfl rfl rfl rfl rfl ⟨rfl, rfl, rfl, rfl, rfl⟩ rfl rfl rfl rfl rfl (by kernel_rfl) Try.func7 (by kernel_rfl)
    (of_decide_eq_true (by kernel_rfl)) (by unfold Func.isWrapper; first | (rw [if_pos (by decide +kernel)]; kernel_rfl) | (rw [if_neg (by decide +kernel)]; exact ⟨rfl, rfl⟩))
    (fun os started H enc _ => objRead_lifted os started H enc)
#print axioms objRead_holds
end Go.Proofs.Ytgmpcdonmlhohaa
