/- Proved: for every list of records the call ringlaw4.RefsCounted returns true and leaves its argument as it was. No condition. -/
import Derived.Test.YtjdbclcafjlohaaRows
import Derived.Test.YtjdbclcafjlohaaTrD
import Derived.Test.YtjdbclcafjlohaaRfC
namespace Go.Proofs.Ytjdbclcafjlohaa
open Go.ChangeShapes Go.WideShapes Go.ChangeAt Go.RowKit Go.Joins Go.Deep
theorem Try.own5 : ownKnob Try.prog.godebug = none := by kernel_rfl
theorem Try.laidOut5 : laidOutB Try.prog = true := by kernel_rfl
theorem Try.cells24_5 : Try.prog.cellsOf 24 = 4 := by kernel_rfl

set_option maxRecDepth 100000 in
theorem refsCounted_lifted (os : Os) (started : os.Started) (H : Type) (enc : TypeId × Value → H) :
    ReturnsInHanded {} Try.checked os 5 .any (Rows.refsCountedSpec.pre6 enc Try.prog Try.f5 Rows.refsCountedRow.domain false) (Rows.refsCountedSpec.post enc Try.prog Try.f5 false true false false) := by
  refine law_lifted (C := Try.checked) Try.own5 started (by kernel_rfl) Try.func5
    (ChangeSpec.witness6 (enc := enc) (C := Try.checked) false ⟨#[], #[.slice none 0 0], []⟩ 8 (by kernel_rfl) (by kernel_rfl) (by kernel_rfl) (by kernel_rfl))
    Try.laidOut5 (by kernel_rfl) rfl ?_ (tb := 4) (by kernel_rfl) Try.underlying4 ?_
  · intro ds h
    match ds, h with
    | [d0], _ => rfl
  · intro W base args ds ps hval0 hA0 hfz hsz0
    have hval : ∀ (j : Nat) t v, Try.f5.params[j]? = some t → args[j]? = some v → Value.okWide Try.prog W .any base t v := hval0
    have hA : DataW.TrodAll enc Try.prog W 0 (fun _ => true) true Try.f5.params.toList args.toList ds ps := hA0
    rw [Try.params5] at hA hval
    obtain ⟨v0, d0, rfl, rfl, ⟨fu, h0⟩⟩ := trodAll_one hA
    obtain ⟨a0, n0, cc0, rfl⟩ := okWide_slice Try.underlying22 (hval 0 22 v0 rfl rfl)
    obtain ⟨A, n, c, rs, e0, hr, hok, hnc, hcm, hw⟩ := open_rr Try.underlying22 Try.underlying24 (by kernel_rfl) Try.cells24_5 Try.underlying3 Try.underlying3 Try.underlying3 Try.underlying3 (v := .slice a0 n0 cc0) (by simpa [Value.cells] using h0)
    rw [e0]
    exact law_refsCounted A n c rs W hr (by unfold maxLen at hcm; omega)

theorem refsCounted_holds : Rows.RefsCountedSaid :=
  OpenClaim.holds_of_wide 5 Try.f5 rfl rfl rfl rfl rfl rfl rfl ⟨rfl, rfl, rfl, rfl, rfl⟩ rfl rfl rfl rfl rfl (by kernel_rfl) Try.func5 (by kernel_rfl)
    (of_decide_eq_true (by kernel_rfl)) (by unfold Func.isWrapper; first | (rw [if_pos (by decide +kernel)]; kernel_rfl) | (rw [if_neg (by decide +kernel)]; exact ⟨rfl, rfl⟩))
    (fun os started H enc _ => refsCounted_lifted os started H enc)
#print axioms refsCounted_holds
end Go.Proofs.Ytjdbclcafjlohaa
