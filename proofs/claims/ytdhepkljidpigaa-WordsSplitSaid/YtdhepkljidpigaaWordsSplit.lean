/- Proved: for every line the call ringlaw4.WordsSplit returns true and leaves its argument as it was. No condition. -/
import Derived.Test.YtdhepkljidpigaaRows
import Derived.Test.YtdhepkljidpigaaLaw
import Derived.Test.YtdhepkljidpigaaWdS
namespace Go.Proofs.Ytdhepkljidpigaa
open Go.ChangeShapes Go.WideShapes Go.ChangeAt Go.RowKit Go.Joins Go.Deep
set_option linter.unusedVariables false
theorem Try.own_wordsSplit : ownKnob Try.prog.godebug = none := by kernel_rfl
theorem Try.laidOut_wordsSplit : laidOutB Try.prog = true := by kernel_rfl

set_option maxRecDepth 100000 in
theorem wordsSplit_lifted (os : Os) (started : os.Started) (H : Type) (enc : TypeId × Value → H) :
    ReturnsInHanded {} Try.checked os 3 .any (Rows.wordsSplitSpec.pre6 enc Try.prog Try.f3 Rows.wordsSplitRow.domain false) (Rows.wordsSplitSpec.post enc Try.prog Try.f3 false true false false) := by
  refine law_lifted (C := Try.checked) Try.own_wordsSplit started (by kernel_rfl) Try.func3
    (ChangeSpec.witness6 (enc := enc) (C := Try.checked) false ⟨#[], #[.string ⟨#[]⟩], []⟩ 8 (by kernel_rfl) (by kernel_rfl) (by kernel_rfl) (by kernel_rfl))
    Try.laidOut_wordsSplit (by kernel_rfl) rfl ?_ (tb := 4) (by kernel_rfl) Try.underlying4 ?_
  · intro ds h
    match ds, h with
    | [d0], _ => rfl
  · intro W base args ds ps hval0 hA0 hfz hsz0
    have hval : ∀ (j : Nat) t v, Try.f3.params[j]? = some t → args[j]? = some v → Value.okWide Try.prog W .any base t v := hval0
    have hA : DataW.TrodAll enc Try.prog W 0 (fun _ => true) true Try.f3.params.toList args.toList ds ps := hA0
    have hsz : (DataW.weightsEach Try.prog Try.f3.params.toList ds).all (· ≤ reachBytes) = true := hsz0
    rw [Try.params3] at hA hval hsz
    obtain ⟨v0, d0, rfl, rfl, h0⟩ := trodAll_one hA
    obtain ⟨fu0, h0⟩ := h0
    obtain ⟨s0, rfl⟩ := okWide_string Try.underlying9 (hval 0 9 v0 rfl rfl)
    obtain ⟨s, e, _, hs⟩ := DataW.trod_string Try.underlying9 h0
    have hse : s = s0 := by
      have h2 : [Value.string s0] = [.string s] := by simpa [Value.cells] using e
      injection h2 with h2
      injection h2 with h2
      exact h2.symm
    subst hse
    unfold maxLen at hs
    exact law_wordsSplit s W (by omega)

theorem wordsSplit_holds : Rows.WordsSplitSaid :=
  OpenClaim.holds_of_wide 3 Try.f3 rfl rfl rfl rfl rfl rfl rfl ⟨rfl, rfl, rfl, rfl, rfl⟩ rfl rfl rfl rfl rfl (by kernel_rfl) Try.func3 (by kernel_rfl)
    (of_decide_eq_true (by kernel_rfl)) (by unfold Func.isWrapper; first | (rw [if_pos (by decide +kernel)]; kernel_rfl) | (rw [if_neg (by decide +kernel)]; exact ⟨rfl, rfl⟩))
    (fun os started H enc _ => wordsSplit_lifted os started H enc)
#print axioms wordsSplit_holds
end Go.Proofs.Ytdhepkljidpigaa
