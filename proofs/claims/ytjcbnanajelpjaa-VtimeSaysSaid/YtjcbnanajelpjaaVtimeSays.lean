/- Proved: for every virtual time, weight, number of ticks, both lists and every place the call ringlaw1.VtimeSays returns true and leaves its arguments as they were. No condition. -/
import Derived.Test.YtjcbnanajelpjaaRows
import Derived.Test.YtjcbnanajelpjaaVtD
namespace Go.Proofs.Ytjcbnanajelpjaa
open Go.ChangeShapes Go.WideShapes Go.ChangeAt Go.RowKit Go.Joins Go.Deep
theorem Try.own4 : ownKnob Try.prog.godebug = none := by kernel_rfl
theorem Try.laidOut4 : laidOutB Try.prog = true := by kernel_rfl

set_option maxRecDepth 100000 in
theorem vtimeSays_lifted (os : Os) (started : os.Started) (H : Type) (enc : TypeId × Value → H) :
    ReturnsInHanded {} Try.checked os 4 .any (Rows.vtimeSaysSpec.pre6 enc Try.prog Try.f4 Rows.vtimeSaysRow.domain false) (Rows.vtimeSaysSpec.post enc Try.prog Try.f4 false true false false) := by
  refine law_lifted (C := Try.checked) Try.own4 started (by kernel_rfl) Try.func4
    (ChangeSpec.witness6 (enc := enc) (C := Try.checked) false ⟨#[], #[.int .i64 0, .int .i64 0, .int .i64 0, .slice none 0 0, .slice none 0 0, .int .i64 0], []⟩ 8 (by kernel_rfl) (by kernel_rfl) (by kernel_rfl) (by kernel_rfl))
    Try.laidOut4 (by kernel_rfl) rfl ?_ (tb := 4) (by kernel_rfl) Try.underlying4 ?_
  · intro ds h
    match ds, h with
    | [d0, d1, d2, d3, d4, d5], _ => rfl
  · intro W base args ds ps hval0 hA0 hfz hsz0
    have hval : ∀ (j : Nat) t v, Try.f4.params[j]? = some t → args[j]? = some v → Value.okWide Try.prog W .any base t v := hval0
    have hA : DataW.TrodAll enc Try.prog W 0 (fun _ => true) true Try.f4.params.toList args.toList ds ps := hA0
    rw [Try.params4] at hA hval
    obtain ⟨al⟩ := args
    obtain ⟨v0, al, d0, ds, p0, ps, rfl, rfl, rfl, ⟨f0, h0⟩, hA⟩ := trodAll_cons hA
    obtain ⟨v1, al, d1, ds, p1, ps, rfl, rfl, rfl, ⟨f1, h1⟩, hA⟩ := trodAll_cons hA
    obtain ⟨v2, al, d2, ds, p2, ps, rfl, rfl, rfl, ⟨f2, h2⟩, hA⟩ := trodAll_cons hA
    obtain ⟨v3, al, d3, ds, p3, ps, rfl, rfl, rfl, ⟨f3, h3⟩, hA⟩ := trodAll_cons hA
    obtain ⟨v4, al, d4, ds, p4, ps, rfl, rfl, rfl, ⟨f4, h4⟩, hA⟩ := trodAll_cons hA
    obtain ⟨v5, al, d5, ds, p5, ps, rfl, rfl, rfl, ⟨f5, h5⟩, hA⟩ := trodAll_cons hA
    obtain ⟨rfl, rfl, rfl⟩ := trodAll_nil hA
    obtain ⟨a0, rfl⟩ := okWide_int Try.underlying3 (hval 0 3 v0 rfl rfl)
    obtain ⟨a1, rfl⟩ := okWide_int Try.underlying3 (hval 1 3 v1 rfl rfl)
    obtain ⟨a2, rfl⟩ := okWide_int Try.underlying3 (hval 2 3 v2 rfl rfl)
    obtain ⟨s0, n0, c0, rfl⟩ := okWide_slice Try.underlying30 (hval 3 30 v3 rfl rfl)
    obtain ⟨s1, n1, c1, rfl⟩ := okWide_slice Try.underlying30 (hval 4 30 v4 rfl rfl)
    obtain ⟨a5, rfl⟩ := okWide_int Try.underlying3 (hval 5 3 v5 rfl rfl)
    obtain ⟨x0, e0, _, wf0⟩ := DataW.trod_int Try.underlying3 h0
    obtain ⟨A, n, c, xs, hv, hr, hnc, hcm, hw⟩ := open_ri Try.underlying30 Try.underlying3 (by kernel_rfl) (by simpa [Value.cells] using h3)
    obtain ⟨A', n', c', ys, hv', hr', hnc', hcm', hw'⟩ := open_ri Try.underlying30 Try.underlying3 (by kernel_rfl) (by simpa [Value.cells] using h4)
    rw [hv, hv']
    simp [Value.cells] at e0
    subst e0
    exact law_vtime _ _ _ A A' n c n' c' xs ys _ W hr hr' (by unfold maxLen at hcm; omega) (by unfold maxLen at hcm'; omega) (i64_range wf0)

theorem vtimeSays_holds : Rows.VtimeSaysSaid :=
  OpenClaim.holds_of_wide 4 Try.f4 rfl rfl rfl rfl rfl rfl rfl ⟨rfl, rfl, rfl, rfl, rfl⟩ rfl rfl rfl rfl rfl (by kernel_rfl) Try.func4 (by kernel_rfl)
    (of_decide_eq_true (by kernel_rfl)) (by unfold Func.isWrapper; first | (rw [if_pos (by decide +kernel)]; kernel_rfl) | (rw [if_neg (by decide +kernel)]; exact ⟨rfl, rfl⟩))
    (fun os started H enc _ => vtimeSays_lifted os started H enc)
#print axioms vtimeSays_holds
end Go.Proofs.Ytjcbnanajelpjaa
