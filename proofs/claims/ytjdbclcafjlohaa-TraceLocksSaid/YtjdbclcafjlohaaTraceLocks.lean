/- Proved: for every list of records and every task the call ringlaw4.TraceLocks returns true and leaves its arguments as they were. No condition. -/
import Derived.Test.YtjdbclcafjlohaaRows
import Derived.Test.YtjdbclcafjlohaaTrD
import Derived.Test.YtjdbclcafjlohaaTkG
namespace Go.Proofs.Ytjdbclcafjlohaa
open Go.ChangeShapes Go.WideShapes Go.ChangeAt Go.RowKit Go.Joins Go.Deep
set_option linter.unusedVariables false
theorem Try.own_traceLocks : ownKnob Try.prog.godebug = none := by kernel_rfl
theorem Try.laidOut_traceLocks : laidOutB Try.prog = true := by kernel_rfl

set_option maxRecDepth 100000 in
theorem traceLocks_lifted (os : Os) (started : os.Started) (H : Type) (enc : TypeId × Value → H) :
    ReturnsInHanded {} Try.checked os 8 .any (Rows.traceLocksSpec.pre6 enc Try.prog Try.f8 Rows.traceLocksRow.domain false) (Rows.traceLocksSpec.post enc Try.prog Try.f8 false true false false) := by
  refine law_lifted (C := Try.checked) Try.own_traceLocks started (by kernel_rfl) Try.func8
    (ChangeSpec.witness6 (enc := enc) (C := Try.checked) false ⟨#[], #[.slice none 0 0, .int .i64 0], []⟩ 8 (by kernel_rfl) (by kernel_rfl) (by kernel_rfl) (by kernel_rfl))
    Try.laidOut_traceLocks (by kernel_rfl) rfl ?_ (tb := 4) (by kernel_rfl) Try.underlying4 ?_
  · intro ds h
    match ds, h with
    | [d0, d1], _ => rfl
  · intro W base args ds ps hval0 hA0 hfz hsz0
    have hval : ∀ (j : Nat) t v, Try.f8.params[j]? = some t → args[j]? = some v → Value.okWide Try.prog W .any base t v := hval0
    have hA : DataW.TrodAll enc Try.prog W 0 (fun _ => true) true Try.f8.params.toList args.toList ds ps := hA0
    have hsz : (DataW.weightsEach Try.prog Try.f8.params.toList ds).all (· ≤ reachBytes) = true := hsz0
    rw [Try.params8] at hA hval hsz
    obtain ⟨v0, v1, d0, d1, p0, p1, rfl, rfl, rfl, h0, h1⟩ := trodAll_two hA
    obtain ⟨fu0, h0⟩ := h0
    obtain ⟨a0, n0, cc0, rfl⟩ := okWide_slice Try.underlying22 (hval 0 22 v0 rfl rfl)
    obtain ⟨A, n, c, rs, e0, hr, hok, hnc, hcm, hw⟩ := open_rr Try.underlying22 Try.underlying24 (by kernel_rfl) (by kernel_rfl) Try.underlying3 Try.underlying3 Try.underlying3 Try.underlying3 (v := .slice a0 n0 cc0) (by simpa [Value.cells] using h0)
    rw [e0]
    obtain ⟨fu1, h1⟩ := h1
    obtain ⟨x1, rfl⟩ := okWide_int Try.underlying3 (hval 1 3 v1 rfl rfl)
    obtain ⟨x1', e1', r1⟩ := one_int (v := .int .i64 x1) Try.underlying3 (by simpa [Value.cells] using h1)
    have he1 : x1' = x1 := by injection e1' with _ h; exact h.symm
    subst he1
    exact law_traceLocks A n c rs _ W hr hnc (by unfold maxLen at hcm; omega)

theorem traceLocks_holds : Rows.TraceLocksSaid :=
  OpenClaim.holds_of_wide 8 Try.f8 rfl rfl rfl rfl rfl rfl rfl ⟨rfl, rfl, rfl, rfl, rfl⟩ rfl rfl rfl rfl rfl (by kernel_rfl) Try.func8 (by kernel_rfl)
    (of_decide_eq_true (by kernel_rfl)) (by unfold Func.isWrapper; first | (rw [if_pos (by decide +kernel)]; kernel_rfl) | (rw [if_neg (by decide +kernel)]; exact ⟨rfl, rfl⟩))
    (fun os started H enc _ => traceLocks_lifted os started H enc)
#print axioms traceLocks_holds
end Go.Proofs.Ytjdbclcafjlohaa
