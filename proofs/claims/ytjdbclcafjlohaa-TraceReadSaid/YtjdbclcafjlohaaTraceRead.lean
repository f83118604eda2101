/- Proved: for every list of bytes the call ringlaw4.TraceRead returns true and leaves its argument as it was. No condition. -/
import Derived.Test.YtjdbclcafjlohaaRows
import Derived.Test.YtjdbclcafjlohaaTrG
import Derived.Test.YtjdbclcafjlohaaOpen
namespace Go.Proofs.Ytjdbclcafjlohaa
open Go.ChangeShapes Go.WideShapes Go.ChangeAt Go.RowKit Go.Joins Go.Deep
theorem Try.own4t : ownKnob Try.prog.godebug = none := by kernel_rfl
theorem Try.laidOut4t : laidOutB Try.prog = true := by kernel_rfl

set_option maxRecDepth 100000 in
theorem traceRead_lifted (os : Os) (started : os.Started) (H : Type) (enc : TypeId × Value → H) :
    ReturnsInHanded {} Try.checked os 4 .any (Rows.traceReadSpec.pre6 enc Try.prog Try.f4 Rows.traceReadRow.domain false) (Rows.traceReadSpec.post enc Try.prog Try.f4 false true false false) := by
  refine law_lifted (C := Try.checked) Try.own4t started (by kernel_rfl) Try.func4
    (ChangeSpec.witness6 (enc := enc) (C := Try.checked) false ⟨#[], #[.slice none 0 0], []⟩ 8 (by kernel_rfl) (by kernel_rfl) (by kernel_rfl) (by kernel_rfl))
    Try.laidOut4t (by kernel_rfl) rfl ?_ (tb := 4) (by kernel_rfl) Try.underlying4 ?_
  · intro ds h
    match ds, h with
    | [d0], _ => rfl
  · intro W base args ds ps hval0 hA0 hfz hsz0
    have hval : ∀ (j : Nat) t v, Try.f4.params[j]? = some t → args[j]? = some v → Value.okWide Try.prog W .any base t v := hval0
    have hA : DataW.TrodAll enc Try.prog W 0 (fun _ => true) true Try.f4.params.toList args.toList ds ps := hA0
    have hsz : (DataW.weightsEach Try.prog Try.f4.params.toList ds).all (· ≤ reachBytes) = true := hsz0
    rw [Try.params4] at hA hval hsz
    obtain ⟨v0, d0, rfl, rfl, h0⟩ := trodAll_one hA
    obtain ⟨a0, n0, c0, rfl⟩ := okWide_slice Try.underlying25 (hval 0 25 v0 rfl rfl)
    obtain ⟨fuel, hf⟩ := h0
    obtain ⟨A, n, c, xs, hv, hr, hnc, hcm, hw⟩ := open_ri Try.underlying25 Try.underlying5 (by kernel_rfl) (by simpa [Value.cells] using hf)
    rw [hv]
    exact law_traceRead A n c xs W hr.rb (by unfold maxLen at hcm; omega)

theorem traceRead_holds : Rows.TraceReadSaid :=
  OpenClaim.holds_of_wide 4 Try.f4 rfl rfl rfl rfl rfl rfl rfl ⟨rfl, rfl, rfl, rfl, rfl⟩ rfl rfl rfl rfl rfl (by kernel_rfl) Try.func4 (by kernel_rfl)
    (of_decide_eq_true (by kernel_rfl)) (by unfold Func.isWrapper; first | (rw [if_pos (by decide +kernel)]; kernel_rfl) | (rw [if_neg (by decide +kernel)]; exact ⟨rfl, rfl⟩))
    (fun os started H enc _ => traceRead_lifted os started H enc)
#print axioms traceRead_holds
end Go.Proofs.Ytjdbclcafjlohaa
