/- Proved: for every list of records the call ringlaw4.RefsWrong returns true and leaves its argument as it was. No condition. -/
import Derived.Test.YtjdbclcafjlohaaRows
import Derived.Test.YtjdbclcafjlohaaTrD
import Derived.Test.YtjdbclcafjlohaaRwD
namespace Go.Proofs.Ytjdbclcafjlohaa
open Go.ChangeShapes Go.WideShapes Go.ChangeAt Go.RowKit Go.Joins Go.Deep
theorem Try.own6 : ownKnob Try.prog.godebug = none := by kernel_rfl
theorem Try.laidOut6 : laidOutB Try.prog = true := by kernel_rfl
theorem Try.cells24_6 : Try.prog.cellsOf 24 = 4 := by kernel_rfl

set_option maxRecDepth 100000 in
theorem refsWrong_lifted (os : Os) (started : os.Started) (H : Type) (enc : TypeId × Value → H) :
    ReturnsInHanded {} Try.checked os 6 .any (Rows.refsWrongSpec.pre6 enc Try.prog Try.f6 Rows.refsWrongRow.domain false) (Rows.refsWrongSpec.post enc Try.prog Try.f6 false true false false) := by
  refine law_lifted (C := Try.checked) Try.own6 started (by kernel_rfl) Try.func6
    (ChangeSpec.witness6 (enc := enc) (C := Try.checked) false ⟨#[], #[.slice none 0 0], []⟩ 8 (by kernel_rfl) (by kernel_rfl) (by kernel_rfl) (by kernel_rfl))
    Try.laidOut6 (by kernel_rfl) rfl ?_ (tb := 4) (by kernel_rfl) Try.underlying4 ?_
  · intro ds h
    match ds, h with
    | [d0], _ => rfl
  · intro W base args ds ps hval0 hA0 hfz hsz0
    have hval : ∀ (j : Nat) t v, Try.f6.params[j]? = some t → args[j]? = some v → Value.okWide Try.prog W .any base t v := hval0
    have hA : DataW.TrodAll enc Try.prog W 0 (fun _ => true) true Try.f6.params.toList args.toList ds ps := hA0
    rw [Try.params6] at hA hval
    obtain ⟨v0, d0, rfl, rfl, ⟨fu, h0⟩⟩ := trodAll_one hA
    obtain ⟨a0, n0, cc0, rfl⟩ := okWide_slice Try.underlying22 (hval 0 22 v0 rfl rfl)
    obtain ⟨A, n, c, rs, e0, hr, hok, hnc, hcm, hw⟩ := open_rr Try.underlying22 Try.underlying24 (by kernel_rfl) Try.cells24_6 Try.underlying3 Try.underlying3 Try.underlying3 Try.underlying3 (v := .slice a0 n0 cc0) (by simpa [Value.cells] using h0)
    rw [e0]
    exact law_refsWrong A n c rs W hr hnc (by unfold maxLen at hcm; omega)

theorem refsWrong_holds : Rows.RefsWrongSaid :=
  OpenClaim.holds_of_wide 6 Try.f6 rfl rfl rfl rfl rfl rfl rfl ⟨rfl, rfl, rfl, rfl, rfl⟩ rfl rfl rfl rfl rfl (by kernel_rfl) Try.func6 (by kernel_rfl)
    (of_decide_eq_true (by kernel_rfl)) (by unfold Func.isWrapper; first | (rw [if_pos (by decide +kernel)]; kernel_rfl) | (rw [if_neg (by decide +kernel)]; exact ⟨rfl, rfl⟩))
    (fun os started H enc _ => refsWrong_lifted os started H enc)
#print axioms refsWrong_holds
end Go.Proofs.Ytjdbclcafjlohaa
