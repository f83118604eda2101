/- Proved: for every list of plays the call ringlaw1.SleepPlays returns true and leaves its argument as it was. No condition. -/
import Derived.Test.YtenhcpobncmedaaRows
import Derived.Test.YtenhcpobncmedaaLaw
import Derived.Test.YtenhcpobncmedaaSeR
namespace Go.Proofs.Ytenhcpobncmedaa
open Go.ChangeShapes Go.WideShapes Go.ChangeAt Go.RowKit Go.Joins Go.Deep
set_option linter.unusedVariables false
theorem Try.own_sleepPlays : ownKnob Try.prog.godebug = none := by kernel_rfl
theorem Try.laidOut_sleepPlays : laidOutB Try.prog = true := by kernel_rfl

set_option maxRecDepth 100000 in
theorem sleepPlays_lifted (os : Os) (started : os.Started) (H : Type) (enc : TypeId × Value → H) :
    ReturnsInHanded {} Try.checked os 8 .any (Rows.sleepPlaysSpec.pre6 enc Try.prog Try.f8 Rows.sleepPlaysRow.domain false) (Rows.sleepPlaysSpec.post enc Try.prog Try.f8 false true false false) := by
  refine law_lifted (C := Try.checked) Try.own_sleepPlays started (by kernel_rfl) Try.func8
    (ChangeSpec.witness6 (enc := enc) (C := Try.checked) false ⟨#[], #[.slice none 0 0], []⟩ 8 (by kernel_rfl) (by kernel_rfl) (by kernel_rfl) (by kernel_rfl))
    Try.laidOut_sleepPlays (by kernel_rfl) rfl ?_ (tb := 4) (by kernel_rfl) Try.underlying4 ?_
  · intro ds h
    match ds, h with
    | [d0], _ => rfl
  · intro W base args ds ps hval0 hA0 hfz hsz0
    have hval : ∀ (j : Nat) t v, Try.f8.params[j]? = some t → args[j]? = some v → Value.okWide Try.prog W .any base t v := hval0
    have hA : DataW.TrodAll enc Try.prog W 0 (fun _ => true) true Try.f8.params.toList args.toList ds ps := hA0
    have hsz : (DataW.weightsEach Try.prog Try.f8.params.toList ds).all (· ≤ reachBytes) = true := hsz0
    rw [Try.params8] at hA hval hsz
    obtain ⟨v0, d0, rfl, rfl, h0⟩ := trodAll_one hA
    obtain ⟨fu0, h0⟩ := h0
    obtain ⟨aa0, nn0, cc0, rfl⟩ := okWide_slice Try.underlying40 (hval 0 40 v0 rfl rfl)
    have hw0 : ∀ m ∈ (d0 : DataW H).weights Try.prog 40, m ≤ reachBytes := fun m hm => by
      have := List.all_eq_true.1 hsz m (by simp only [DataW.weightsEach, List.append_nil]; exact hm)
      simpa using this
    obtain ⟨A0, n0, c0, ps0, e0, hr0, hnc0, hcm0, hwt0⟩ := open_plays Try.underlying40 Try.underlying45 Try.underlying3 (by kernel_rfl) (by kernel_rfl) (v := .slice aa0 nn0 cc0) (by simpa [Value.cells] using h0)
    rw [e0]
    have hby0 : Try.prog.bytesOf 45 = 24 := by kernel_rfl
    have hb0 := hwt0 reachBytes hw0
    rw [hby0] at hb0
    unfold reachBytes at hb0
    exact law_sleepPlays A0 n0 c0 ps0 W hr0 (by omega)

theorem sleepPlays_holds : Rows.SleepPlaysSaid :=
  OpenClaim.holds_of_wide 8 Try.f8 rfl rfl rfl rfl rfl rfl rfl ⟨rfl, rfl, rfl, rfl, rfl⟩ rfl rfl rfl rfl rfl (by kernel_rfl) Try.func8 (by kernel_rfl)
    (of_decide_eq_true (by kernel_rfl)) (by unfold Func.isWrapper; first | (rw [if_pos (by decide +kernel)]; kernel_rfl) | (rw [if_neg (by decide +kernel)]; exact ⟨rfl, rfl⟩))
    (fun os started H enc _ => sleepPlays_lifted os started H enc)
#print axioms sleepPlays_holds
end Go.Proofs.Ytenhcpobncmedaa
