/- Proved: for every count and every list of plays the call ringlaw1.SemPlays returns true and leaves its arguments as they were. No condition. -/
import Derived.Test.YtjcbnanajelpjaaRows
import Derived.Test.YtjcbnanajelpjaaSmB
namespace Go.Proofs.Ytjcbnanajelpjaa
open Go.ChangeShapes Go.WideShapes Go.ChangeAt Go.RowKit Go.Joins Go.Deep
set_option linter.unusedVariables false
theorem Try.own_semPlays : ownKnob Try.prog.godebug = none := by kernel_rfl
theorem Try.laidOut_semPlays : laidOutB Try.prog = true := by kernel_rfl

set_option maxRecDepth 100000 in
theorem semPlays_lifted (os : Os) (started : os.Started) (H : Type) (enc : TypeId × Value → H) :
    ReturnsInHanded {} Try.checked os 8 .any (Rows.semPlaysSpec.pre6 enc Try.prog Try.f8 Rows.semPlaysRow.domain false) (Rows.semPlaysSpec.post enc Try.prog Try.f8 false true false false) := by
  refine law_lifted (C := Try.checked) Try.own_semPlays started (by kernel_rfl) Try.func8
    (ChangeSpec.witness6 (enc := enc) (C := Try.checked) false ⟨#[], #[.int .i64 0, .slice none 0 0], []⟩ 8 (by kernel_rfl) (by kernel_rfl) (by kernel_rfl) (by kernel_rfl))
    Try.laidOut_semPlays (by kernel_rfl) rfl ?_ (tb := 4) (by kernel_rfl) Try.underlying4 ?_
  · intro ds h
    match ds, h with
    | [d0, d1], _ => rfl
  · intro W base args ds ps hval0 hA0 hfz hsz0
    have hval : ∀ (j : Nat) t v, Try.f8.params[j]? = some t → args[j]? = some v → Value.okWide Try.prog W .any base t v := hval0
    have hA : DataW.TrodAll enc Try.prog W 0 (fun _ => true) true Try.f8.params.toList args.toList ds ps := hA0
    have hsz : (DataW.weightsEach Try.prog Try.f8.params.toList ds).all (· ≤ reachBytes) = true := hsz0
    rw [Try.params8] at hA hval hsz
    obtain ⟨v0, v1, d0, d1, p0, p1, rfl, rfl, rfl, h0, h1⟩ := trodAll_two hA
    obtain ⟨fu0, h0⟩ := h0
    obtain ⟨fu1, h1⟩ := h1
    obtain ⟨x0, rfl⟩ := okWide_int Try.underlying3 (hval 0 3 v0 rfl rfl)
    obtain ⟨x0', e0', r0⟩ := one_int (v := .int .i64 x0) Try.underlying3 (by simpa [Value.cells] using h0)
    have he0 : x0' = x0 := by injection e0' with _ h; exact h.symm
    subst he0
    obtain ⟨a0, n0, cc0, rfl⟩ := okWide_slice Try.underlying38 (hval 1 38 v1 rfl rfl)
    have hw0 : ∀ m ∈ (d1 : DataW H).weights Try.prog 38, m ≤ reachBytes := fun m hm => by
      have := List.all_eq_true.1 hsz m (by simp only [DataW.weightsEach, List.append_nil]; exact List.mem_append_right _ hm)
      simpa using this
    obtain ⟨A, n, c, ps, e1, hr, hnc, hcm, hw⟩ := open_plays Try.underlying38 Try.underlying30 Try.underlying3 (by kernel_rfl) (by kernel_rfl) (v := .slice a0 n0 cc0) (by simpa [Value.cells] using h1)
    rw [e1]
    have hby : Try.prog.bytesOf 30 = 24 := by kernel_rfl
    have hb := hw reachBytes hw0
    rw [hby] at hb
    exact law_semPlays x0' A n c ps W hr (by unfold reachBytes at hb; omega) (i64_range r0)

theorem semPlays_holds : Rows.SemPlaysSaid :=
  OpenClaim.holds_of_wide 8 Try.f8 rfl rfl rfl rfl rfl rfl rfl ⟨rfl, rfl, rfl, rfl, rfl⟩ rfl rfl rfl rfl rfl (by kernel_rfl) Try.func8 (by kernel_rfl)
    (of_decide_eq_true (by kernel_rfl)) (by unfold Func.isWrapper; first | (rw [if_pos (by decide +kernel)]; kernel_rfl) | (rw [if_neg (by decide +kernel)]; exact ⟨rfl, rfl⟩))
    (fun os started H enc _ => semPlays_lifted os started H enc)
#print axioms semPlays_holds
end Go.Proofs.Ytjcbnanajelpjaa
