/- Proved: for every segment s the call ringlaw4.SegWritten returns true and leaves its argument as it was. No condition. -/
import Derived.Test.YthlhjaacjhlkhaaRows
import Derived.Test.YthlhjaacjhlkhaaSegE
import Derived.Test.YthlhjaacjhlkhaaOpen
namespace Go.Proofs.Ythlhjaacjhlkhaa
open Go.ChangeShapes Go.WideShapes Go.ChangeAt Go.RowKit Go.Joins Go.Deep
theorem Try.own4 : ownKnob Try.prog.godebug = none := by kernel_rfl
theorem Try.laidOut4 : laidOutB Try.prog = true := by kernel_rfl
theorem Try.cells25b : Try.prog.cellsOf 25 = 5 := by kernel_rfl
theorem Try.bytes5 : Try.prog.bytesOf 5 = 1 := by kernel_rfl

set_option maxRecDepth 100000 in
theorem segWritten_lifted (os : Os) (started : os.Started) (H : Type) (enc : TypeId × Value → H) :
    ReturnsInHanded {} Try.checked os 4 .any (Rows.segWrittenSpec.pre6 enc Try.prog Try.f4 Rows.segWrittenRow.domain false) (Rows.segWrittenSpec.post enc Try.prog Try.f4 false true false false) := by
  refine law_lifted (C := Try.checked) Try.own4 started (by kernel_rfl) Try.func4
    (ChangeSpec.witness6 (enc := enc) (C := Try.checked) false ⟨#[], #[.agg #[.int .u32 0, .int .u32 0, .int .i64 0, .int .i64 0, .slice none 0 0]], []⟩ 8 (by kernel_rfl) (by kernel_rfl) (by kernel_rfl) (by kernel_rfl))
    Try.laidOut4 (by kernel_rfl) rfl ?_ (tb := 4) (by kernel_rfl) Try.underlying4 ?_
  · intro ds h
    match ds, h with
    | [d0], _ => rfl
  · intro W base args ds ps hval0 hA0 hfz hsz0
    have hval : ∀ (j : Nat) t v, Try.f4.params[j]? = some t → args[j]? = some v → Value.okWide Try.prog W .any base t v := hval0
    have hA : DataW.TrodAll enc Try.prog W 0 (fun _ => true) true Try.f4.params.toList args.toList ds ps := hA0
    have hsz : (DataW.weightsEach Try.prog Try.f4.params.toList ds).all (· ≤ reachBytes) = true := hsz0
    rw [Try.params4] at hA hval hsz
    obtain ⟨v0, d0, rfl, rfl, h0⟩ := trodAll_one hA
    obtain ⟨c0, c1, c2, c3, c4, y0, y1, y2, y3, y4, m, rfl, rfl, rfl, g0, g1, g2, g3, g4⟩ := open_agg5 Try.underlying25 (by kernel_rfl) Try.cells25b (hval 0 25 v0 rfl rfl) h0
    obtain ⟨x0, e0, _, w0⟩ := DataW.trod_int Try.underlying22 g0
    obtain ⟨x1, e1, _, w1⟩ := DataW.trod_int Try.underlying22 g1
    obtain ⟨x2, e2, _, w2⟩ := DataW.trod_int Try.underlying3 g2
    obtain ⟨x3, e3, _, w3⟩ := DataW.trod_int Try.underlying3 g3
    simp at e0 e1 e2 e3
    subst e0 e1 e2 e3
    obtain ⟨A, n, c, xs, rfl, hr, hnc, hcm, hw⟩ := open_ri Try.underlying23 Try.underlying5 (by kernel_rfl) g4
    have hn := hw reachBytes (fun k hk => by
      have := List.all_eq_true.1 hsz k (DataW.weights_mem_each (j := 0) rfl rfl k (by
        simp only [DataW.weights, Try.underlying25]
        exact DataW.weights_mem_each (j := 4) rfl rfl k hk))
      simpa using this)
    rw [Try.bytes5] at hn
    exact law_written x0 x1 x2 x3 A n c xs W (u32_range w0) (u32_range w1) (i64_range w2) (i64_range w3) (by unfold reachBytes at hn; omega) hr.rb

theorem segWritten_holds : Rows.SegWrittenSaid :=
  OpenClaim.holds_of_wide 4 Try.f4 rfl rfl rfl rfl rfl rfl rfl ⟨rfl, rfl, rfl, rfl, rfl⟩ rfl rfl rfl rfl rfl (by kernel_rfl) Try.func4 (by kernel_rfl)
    (of_decide_eq_true (by kernel_rfl)) (by unfold Func.isWrapper; first | (rw [if_pos (by decide +kernel)]; kernel_rfl) | (rw [if_neg (by decide +kernel)]; exact ⟨rfl, rfl⟩))
    (fun os started H enc _ => segWritten_lifted os started H enc)
#print axioms segWritten_holds
end Go.Proofs.Ythlhjaacjhlkhaa
