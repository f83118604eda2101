/- Proved: for every first ticket, every list of plays and every two tickets the call ringlaw1.SpinPlays returns true and leaves its arguments as they were. No condition. -/
import Derived.Test.YtjcbnanajelpjaaRows
import Derived.Test.YtjcbnanajelpjaaSpD
namespace Go.Proofs.Ytjcbnanajelpjaa
open Go.ChangeShapes Go.WideShapes Go.ChangeAt Go.RowKit Go.Joins Go.Deep
set_option linter.unusedVariables false
theorem Try.own_spinPlays : ownKnob Try.prog.godebug = none := by kernel_rfl
theorem Try.laidOut_spinPlays : laidOutB Try.prog = true := by kernel_rfl

theorem u16_range {x : Int} (h : (Lit.int .u16 x).wf = true) : U16 x := by
  simp [Lit.wf, IntKind.min, IntKind.max, IntKind.signed, IntKind.bits] at h; unfold U16; omega
set_option maxRecDepth 100000 in
theorem spinPlays_lifted (os : Os) (started : os.Started) (H : Type) (enc : TypeId × Value → H) :
    ReturnsInHanded {} Try.checked os 9 .any (Rows.spinPlaysSpec.pre6 enc Try.prog Try.f9 Rows.spinPlaysRow.domain false) (Rows.spinPlaysSpec.post enc Try.prog Try.f9 false true false false) := by
  refine law_lifted (C := Try.checked) Try.own_spinPlays started (by kernel_rfl) Try.func9
    (ChangeSpec.witness6 (enc := enc) (C := Try.checked) false ⟨#[], #[.int .u16 0, .slice none 0 0, .int .u16 0, .int .u16 0], []⟩ 8 (by kernel_rfl) (by kernel_rfl) (by kernel_rfl) (by kernel_rfl))
    Try.laidOut_spinPlays (by kernel_rfl) rfl ?_ (tb := 4) (by kernel_rfl) Try.underlying4 ?_
  · intro ds h
    match ds, h with
    | [d0, d1, d2, d3], _ => rfl
  · intro W base args ds ps hval0 hA0 hfz hsz0
    have hval : ∀ (j : Nat) t v, Try.f9.params[j]? = some t → args[j]? = some v → Value.okWide Try.prog W .any base t v := hval0
    have hA : DataW.TrodAll enc Try.prog W 0 (fun _ => true) true Try.f9.params.toList args.toList ds ps := hA0
    have hsz : (DataW.weightsEach Try.prog Try.f9.params.toList ds).all (· ≤ reachBytes) = true := hsz0
    rw [Try.params9] at hA hval hsz
    obtain ⟨v0, v1, v2, v3, d0, d1, d2, d3, p0, p1, p2, p3, rfl, rfl, rfl, h0, h1, h2, h3⟩ := trodAll_four hA
    obtain ⟨fu0, h0⟩ := h0
    obtain ⟨x0, rfl⟩ := okWide_int Try.underlying92 (hval 0 92 v0 rfl rfl)
    obtain ⟨x0', e0', r0⟩ := one_int (v := .int .u16 x0) Try.underlying92 (by simpa [Value.cells] using h0)
    have he0 : x0' = x0 := by injection e0' with _ h; exact h.symm
    subst he0
    obtain ⟨fu1, h1⟩ := h1
    obtain ⟨aa1, nn1, cc1, rfl⟩ := okWide_slice Try.underlying38 (hval 1 38 v1 rfl rfl)
    have hw1 : ∀ m ∈ (d1 : DataW H).weights Try.prog 38, m ≤ reachBytes := fun m hm => by
      have := List.all_eq_true.1 hsz m (by simp only [DataW.weightsEach, List.append_nil]; exact List.mem_append_right _ (List.mem_append_left _ hm))
      simpa using this
    obtain ⟨A1, n1, c1, ps1, e1, hr1, hnc1, hcm1, hwt1⟩ := open_plays Try.underlying38 Try.underlying30 Try.underlying3 (by kernel_rfl) (by kernel_rfl) (v := .slice aa1 nn1 cc1) (by simpa [Value.cells] using h1)
    rw [e1]
    have hby1 : Try.prog.bytesOf 30 = 24 := by kernel_rfl
    have hb1 := hwt1 reachBytes hw1
    rw [hby1] at hb1
    unfold reachBytes at hb1
    obtain ⟨fu2, h2⟩ := h2
    obtain ⟨x2, rfl⟩ := okWide_int Try.underlying92 (hval 2 92 v2 rfl rfl)
    obtain ⟨x2', e2', r2⟩ := one_int (v := .int .u16 x2) Try.underlying92 (by simpa [Value.cells] using h2)
    have he2 : x2' = x2 := by injection e2' with _ h; exact h.symm
    subst he2
    obtain ⟨fu3, h3⟩ := h3
    obtain ⟨x3, rfl⟩ := okWide_int Try.underlying92 (hval 3 92 v3 rfl rfl)
    obtain ⟨x3', e3', r3⟩ := one_int (v := .int .u16 x3) Try.underlying92 (by simpa [Value.cells] using h3)
    have he3 : x3' = x3 := by injection e3' with _ h; exact h.symm
    subst he3
    exact law_spinPlays x0' A1 n1 c1 x2' x3' ps1 W hr1 (by omega) (u16_range r0) (u16_range r2) (u16_range r3)

theorem spinPlays_holds : Rows.SpinPlaysSaid :=
  OpenClaim.holds_of_wide 9 Try.f9 rfl rfl rfl rfl rfl rfl rfl ⟨rfl, rfl, rfl, rfl, rfl⟩ rfl rfl rfl rfl rfl (by kernel_rfl) Try.func9 (by kernel_rfl)
    (of_decide_eq_true (by kernel_rfl)) (by unfold Func.isWrapper; first | (rw [if_pos (by decide +kernel)]; kernel_rfl) | (rw [if_neg (by decide +kernel)]; exact ⟨rfl, rfl⟩))
    (fun os started H enc _ => spinPlays_lifted os started H enc)
#print axioms spinPlays_holds
end Go.Proofs.Ytjcbnanajelpjaa
