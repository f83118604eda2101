/- Proved: for every list of plays and every list of texts the call ringlaw1.HeapTexts returns true and leaves its arguments as they were. No condition. -/
import Derived.Test.YtenhcpobncmedaaRows
import Derived.Test.YtenhcpobncmedaaLaw
import Derived.Test.YtenhcpobncmedaaHpOS
namespace Go.Proofs.Ytenhcpobncmedaa
open Go.ChangeShapes Go.WideShapes Go.ChangeAt Go.RowKit Go.Joins Go.Deep
set_option linter.unusedVariables false
theorem Try.own_heapTexts : ownKnob Try.prog.godebug = none := by kernel_rfl
theorem Try.laidOut_heapTexts : laidOutB Try.prog = true := by kernel_rfl

set_option maxRecDepth 100000 in
theorem heapTexts_lifted (os : Os) (started : os.Started) (H : Type) (enc : TypeId × Value → H) :
    ReturnsInHanded {} Try.checked os 6 .any (Rows.heapTextsSpec.pre6 enc Try.prog Try.f6 Rows.heapTextsRow.domain false) (Rows.heapTextsSpec.post enc Try.prog Try.f6 false true false false) := by
  refine law_lifted (C := Try.checked) Try.own_heapTexts started (by kernel_rfl) Try.func6
    (ChangeSpec.witness6 (enc := enc) (C := Try.checked) false ⟨#[], #[.slice none 0 0, .slice none 0 0], []⟩ 8 (by kernel_rfl) (by kernel_rfl) (by kernel_rfl) (by kernel_rfl))
    Try.laidOut_heapTexts (by kernel_rfl) rfl ?_ (tb := 4) (by kernel_rfl) Try.underlying4 ?_
  · intro ds h
    match ds, h with
    | [d0, d1], _ => rfl
  · intro W base args ds ps hval0 hA0 hfz hsz0
    have hval : ∀ (j : Nat) t v, Try.f6.params[j]? = some t → args[j]? = some v → Value.okWide Try.prog W .any base t v := hval0
    have hA : DataW.TrodAll enc Try.prog W 0 (fun _ => true) true Try.f6.params.toList args.toList ds ps := hA0
    have hsz : (DataW.weightsEach Try.prog Try.f6.params.toList ds).all (· ≤ reachBytes) = true := hsz0
    rw [Try.params6] at hA hval hsz
    obtain ⟨v0, v1, d0, d1, p0, p1, rfl, rfl, rfl, h0, h1⟩ := trodAll_two hA
    obtain ⟨fu0, h0⟩ := h0
    obtain ⟨aa0, nn0, cc0, rfl⟩ := okWide_slice Try.underlying40 (hval 0 40 v0 rfl rfl)
    have hw0 : ∀ m ∈ (d0 : DataW H).weights Try.prog 40, m ≤ reachBytes := fun m hm => by
      have := List.all_eq_true.1 hsz m (by simp only [DataW.weightsEach, List.append_nil]; exact List.mem_append_left _ hm)
      simpa using this
    obtain ⟨A0, n0, c0, ps0, e0, hr0, hnc0, hcm0, hwt0⟩ := open_plays Try.underlying40 Try.underlying45 Try.underlying3 (by kernel_rfl) (by kernel_rfl) (v := .slice aa0 nn0 cc0) (by simpa [Value.cells] using h0)
    rw [e0]
    have hby0 : Try.prog.bytesOf 45 = 24 := by kernel_rfl
    have hb0 := hwt0 reachBytes hw0
    rw [hby0] at hb0
    unfold reachBytes at hb0
    obtain ⟨fu1, h1⟩ := h1
    obtain ⟨aa1, nn1, cc1, rfl⟩ := okWide_slice Try.underlying66 (hval 1 66 v1 rfl rfl)
    have hw1 : ∀ m ∈ (d1 : DataW H).weights Try.prog 66, m ≤ reachBytes := fun m hm => by
      have := List.all_eq_true.1 hsz m (by simp only [DataW.weightsEach, List.append_nil]; exact List.mem_append_right _ (hm))
      simpa using this
    obtain ⟨A1, n1, c1, ts1, e1, hr1, hnc1, hcm1, hwt1⟩ := open_texts Try.underlying66 Try.underlying9 (by kernel_rfl) (v := .slice aa1 nn1 cc1) (by simpa [Value.cells] using h1)
    rw [e1]
    have hby1 : Try.prog.bytesOf 9 = 16 := by kernel_rfl
    have hb1 := hwt1 reachBytes hw1
    rw [hby1] at hb1
    unfold reachBytes at hb1
    exact law_heapTexts A0 n0 c0 ps0 A1 n1 c1 ts1 W hr0 (by omega) hr1 (by omega)

theorem heapTexts_holds : Rows.HeapTextsSaid :=
  OpenClaim.holds_of_wide 6 Try.f6 rfl rfl rfl rfl rfl rfl rfl ⟨rfl, rfl, rfl, rfl, rfl⟩ rfl rfl rfl rfl rfl (by kernel_rfl) Try.func6 (by kernel_rfl)
    (of_decide_eq_true (by kernel_rfl)) (by unfold Func.isWrapper; first | (rw [if_pos (by decide +kernel)]; kernel_rfl) | (rw [if_neg (by decide +kernel)]; exact ⟨rfl, rfl⟩))
    (fun os started H enc _ => heapTexts_lifted os started H enc)
#print axioms heapTexts_holds
end Go.Proofs.Ytenhcpobncmedaa
