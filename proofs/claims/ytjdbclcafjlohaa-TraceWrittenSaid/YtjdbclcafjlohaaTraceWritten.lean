/- Proved: for every list of records and every record the call ringlaw4.TraceWritten returns true and leaves its arguments as they were. No condition. -/
import Derived.Test.YtjdbclcafjlohaaRows
import Derived.Test.YtjdbclcafjlohaaTrD
namespace Go.Proofs.Ytjdbclcafjlohaa
open Go.ChangeShapes Go.WideShapes Go.ChangeAt Go.RowKit Go.Joins Go.Deep
theorem Try.own3 : ownKnob Try.prog.godebug = none := by kernel_rfl
theorem Try.laidOut3 : laidOutB Try.prog = true := by kernel_rfl
theorem Try.cells24 : Try.prog.cellsOf 24 = 4 := by kernel_rfl

set_option maxRecDepth 100000 in
theorem traceWritten_lifted (os : Os) (started : os.Started) (H : Type) (enc : TypeId × Value → H) :
    ReturnsInHanded {} Try.checked os 3 .any (Rows.traceWrittenSpec.pre6 enc Try.prog Try.f3 Rows.traceWrittenRow.domain false) (Rows.traceWrittenSpec.post enc Try.prog Try.f3 false true false false) := by
  refine law_lifted (C := Try.checked) Try.own3 started (by kernel_rfl) Try.func3
    (ChangeSpec.witness6 (enc := enc) (C := Try.checked) false ⟨#[], #[.slice none 0 0, .agg #[.int .i64 0, .int .i64 0, .int .i64 0, .int .i64 0]], []⟩ 8 (by kernel_rfl) (by kernel_rfl) (by kernel_rfl) (by kernel_rfl))
    Try.laidOut3 (by kernel_rfl) rfl ?_ (tb := 4) (by kernel_rfl) Try.underlying4 ?_
  · intro ds h
    match ds, h with
    | [d0, d1], _ => rfl
  · intro W base args ds ps hval0 hA0 hfz hsz0
    have hval : ∀ (j : Nat) t v, Try.f3.params[j]? = some t → args[j]? = some v → Value.okWide Try.prog W .any base t v := hval0
    have hA : DataW.TrodAll enc Try.prog W 0 (fun _ => true) true Try.f3.params.toList args.toList ds ps := hA0
    have hsz : (DataW.weightsEach Try.prog Try.f3.params.toList ds).all (· ≤ reachBytes) = true := hsz0
    rw [Try.params3] at hA hval hsz
    obtain ⟨v0, v1, d0, d1, p0, p1, rfl, rfl, rfl, ⟨fu, h0⟩, h1⟩ := trodAll_two hA
    obtain ⟨c0, c1, c2, c3, y0, y1, y2, y3, m, rfl, rfl, rfl, g0, g1, g2, g3⟩ := open_agg4 Try.underlying24 (by kernel_rfl) Try.cells24 (hval 1 24 v1 rfl rfl) h1
    obtain ⟨x0, rfl, r0⟩ := one_int Try.underlying3 g0
    obtain ⟨x1, rfl, r1⟩ := one_int Try.underlying3 g1
    obtain ⟨x2, rfl, r2⟩ := one_int Try.underlying3 g2
    obtain ⟨x3, rfl, r3⟩ := one_int Try.underlying3 g3
    obtain ⟨a0, n0, cc0, rfl⟩ := okWide_slice Try.underlying22 (hval 0 22 v0 rfl rfl)
    obtain ⟨A, n, c, rs, e0, hr, hok, hnc, hcm, hw⟩ := open_rr Try.underlying22 Try.underlying24 (by kernel_rfl) Try.cells24 Try.underlying3 Try.underlying3 Try.underlying3 Try.underlying3 (v := .slice a0 n0 cc0) (by simpa [Value.cells] using h0)
    rw [e0]
    exact law_traceWritten A n c rs ⟨x0, x1, x2, x3⟩ W hr (by unfold maxLen at hcm; omega)

theorem traceWritten_holds : Rows.TraceWrittenSaid :=
  OpenClaim.holds_of_wide 3 Try.f3 rfl rfl rfl rfl rfl rfl rfl ⟨rfl, rfl, rfl, rfl, rfl⟩ rfl rfl rfl rfl rfl (by kernel_rfl) Try.func3 (by kernel_rfl)
    (of_decide_eq_true (by kernel_rfl)) (by unfold Func.isWrapper; first | (rw [if_pos (by decide +kernel)]; kernel_rfl) | (rw [if_neg (by decide +kernel)]; exact ⟨rfl, rfl⟩))
    (fun os started H enc _ => traceWritten_lifted os started H enc)
#print axioms traceWritten_holds
end Go.Proofs.Ytjdbclcafjlohaa
