/- Proved: for every list of plays the call ringlaw1.SpinOff returns true and leaves its argument as it was. No condition. -/
import Derived.Test.YtjcbnanajelpjaaRows
import Derived.Test.YtjcbnanajelpjaaSoD
namespace Go.Proofs.Ytjcbnanajelpjaa
open Go.ChangeShapes Go.WideShapes Go.ChangeAt Go.RowKit Go.Joins Go.Deep
set_option linter.unusedVariables false
theorem Try.own_spinOff : ownKnob Try.prog.godebug = none := by kernel_rfl
theorem Try.laidOut_spinOff : laidOutB Try.prog = true := by kernel_rfl

set_option maxRecDepth 100000 in
theorem spinOff_lifted (os : Os) (started : os.Started) (H : Type) (enc : TypeId × Value → H) :
    ReturnsInHanded {} Try.checked os 5 .any (Rows.spinOffSpec.pre6 enc Try.prog Try.f5 Rows.spinOffRow.domain false) (Rows.spinOffSpec.post enc Try.prog Try.f5 false true false false) := by
  refine law_lifted (C := Try.checked) Try.own_spinOff started (by kernel_rfl) Try.func5
    (ChangeSpec.witness6 (enc := enc) (C := Try.checked) false ⟨#[], #[.slice none 0 0], []⟩ 8 (by kernel_rfl) (by kernel_rfl) (by kernel_rfl) (by kernel_rfl))
    Try.laidOut_spinOff (by kernel_rfl) rfl ?_ (tb := 4) (by kernel_rfl) Try.underlying4 ?_
  · intro ds h
    match ds, h with
    | [d0], _ => rfl
  · intro W base args ds ps hval0 hA0 hfz hsz0
    have hval : ∀ (j : Nat) t v, Try.f5.params[j]? = some t → args[j]? = some v → Value.okWide Try.prog W .any base t v := hval0
    have hA : DataW.TrodAll enc Try.prog W 0 (fun _ => true) true Try.f5.params.toList args.toList ds ps := hA0
    have hsz : (DataW.weightsEach Try.prog Try.f5.params.toList ds).all (· ≤ reachBytes) = true := hsz0
    rw [Try.params5] at hA hval hsz
    obtain ⟨v0, d0, rfl, rfl, h0⟩ := trodAll_one hA
    obtain ⟨fu, h0⟩ := h0
    obtain ⟨a0, n0, cc0, rfl⟩ := okWide_slice Try.underlying38 (hval 0 38 v0 rfl rfl)
    have hw0 : ∀ m ∈ (d0 : DataW H).weights Try.prog 38, m ≤ reachBytes := fun m hm => by
      have := List.all_eq_true.1 hsz m (by simp only [DataW.weightsEach, List.append_nil]; exact hm)
      simpa using this
    obtain ⟨A, n, c, ps, e0, hr, hnc, hcm, hw⟩ := open_plays Try.underlying38 Try.underlying30 Try.underlying3 (by kernel_rfl) (by kernel_rfl) (v := .slice a0 n0 cc0) (by simpa [Value.cells] using h0)
    rw [e0]
    have hby : Try.prog.bytesOf 30 = 24 := by kernel_rfl
    have hb := hw reachBytes hw0
    rw [hby] at hb
    exact law_spinOff A n c ps W hr (by unfold reachBytes at hb; omega)

theorem spinOff_holds : Rows.SpinOffSaid :=
  OpenClaim.holds_of_wide 5 Try.f5 rfl rfl rfl rfl rfl rfl rfl ⟨rfl, rfl, rfl, rfl, rfl⟩ rfl rfl rfl rfl rfl (by kernel_rfl) Try.func5 (by kernel_rfl)
    (of_decide_eq_true (by kernel_rfl)) (by unfold Func.isWrapper; first | (rw [if_pos (by decide +kernel)]; kernel_rfl) | (rw [if_neg (by decide +kernel)]; exact ⟨rfl, rfl⟩))
    (fun os started H enc _ => spinOff_lifted os started H enc)
#print axioms spinOff_holds
end Go.Proofs.Ytjcbnanajelpjaa
