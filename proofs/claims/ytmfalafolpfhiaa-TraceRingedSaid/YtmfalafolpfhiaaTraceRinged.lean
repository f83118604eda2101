/- Proved: for every list of edges the call ringlaw4.TraceRinged returns true and leaves its argument as it was. No condition. -/
import Derived.Test.YtmfalafolpfhiaaRows
import Derived.Test.YtmfalafolpfhiaaLaw
import Derived.Test.YtmfalafolpfhiaaOpen
import Derived.Test.YtmfalafolpfhiaaRecs
import Derived.Test.YtmfalafolpfhiaaRgF
namespace Go.Proofs.Ytmfalafolpfhiaa
open Go.ChangeShapes Go.WideShapes Go.ChangeAt Go.RowKit Go.Joins Go.Deep
set_option linter.unusedVariables false
section
variable {H : Type} {enc : TypeId × Value → H} {P : Program} {w : World} {base : Nat} {held : Bool}
theorem edge_cells {fuel : Nat} {cs : List Value} {x : DataW H × List MemPlace} (h : DataW.trod enc Try.prog w base (fun _ => true) held fuel 37 cs = some x) (hl : cs.length = 2) : ∃ r : Int × Int, cs = edgeCl r ∧ True := by
  obtain ⟨n, hf⟩ := struct_fields Try.underlying37 (by kernel_rfl) h
  match cs, hl with
  | [v0, v1], _ =>
    obtain ⟨y0, g0⟩ := hf 0 _ v0 rfl rfl
    obtain ⟨y1, g1⟩ := hf 1 _ v1 rfl rfl
    obtain ⟨x0, rfl, r0⟩ := one_int Try.underlying3 g0
    obtain ⟨x1, rfl, r1⟩ := one_int Try.underlying3 g1
    exact ⟨(x0, x1), rfl, trivial⟩
end
theorem Try.own_traceRinged : ownKnob Try.prog.godebug = none := by kernel_rfl
theorem Try.laidOut_traceRinged : laidOutB Try.prog = true := by kernel_rfl

set_option maxRecDepth 100000 in
theorem traceRinged_lifted (os : Os) (started : os.Started) (H : Type) (enc : TypeId × Value → H) :
    ReturnsInHanded {} Try.checked os 4 .any (Rows.traceRingedSpec.pre6 enc Try.prog Try.f4 Rows.traceRingedRow.domain false) (Rows.traceRingedSpec.post enc Try.prog Try.f4 false true false false) := by
  refine law_lifted (C := Try.checked) Try.own_traceRinged started (by kernel_rfl) Try.func4
    (ChangeSpec.witness6 (enc := enc) (C := Try.checked) false ⟨#[], #[.slice none 0 0], []⟩ 8 (by kernel_rfl) (by kernel_rfl) (by kernel_rfl) (by kernel_rfl))
    Try.laidOut_traceRinged (by kernel_rfl) rfl ?_ (tb := 4) (by kernel_rfl) Try.underlying4 ?_
  · intro ds h
    match ds, h with
    | [d0], _ => rfl
  · intro W base args ds ps hval0 hA0 hfz hsz0
    have hval : ∀ (j : Nat) t v, Try.f4.params[j]? = some t → args[j]? = some v → Value.okWide Try.prog W .any base t v := hval0
    have hA : DataW.TrodAll enc Try.prog W 0 (fun _ => true) true Try.f4.params.toList args.toList ds ps := hA0
    have hsz : (DataW.weightsEach Try.prog Try.f4.params.toList ds).all (· ≤ reachBytes) = true := hsz0
    rw [Try.params4] at hA hval hsz
    obtain ⟨v0, d0, rfl, rfl, h0⟩ := trodAll_one hA
    obtain ⟨fu0, h0⟩ := h0
    obtain ⟨aa0, nn0, cc0, rfl⟩ := okWide_slice Try.underlying22 (hval 0 22 v0 rfl rfl)
    obtain ⟨A0, n0, c0, es, e0, hr0, hok0, hnc0, hcm0, hwt0⟩ := open_recs (0, 0) (cl := edgeCl) (s := 2) (fun _ => rfl) (by omega) (fun o => True) Try.underlying22 (by kernel_rfl) (fun fu cs y hy hl => edge_cells hy hl) (v := .slice aa0 nn0 cc0) (by simpa [Value.cells] using h0)
    rw [e0]
    exact law_traceRinged A0 n0 c0 es W hr0 (by unfold maxLen at hcm0; omega)

theorem traceRinged_holds : Rows.TraceRingedSaid :=
  OpenClaim.holds_of_wide 4 Try.f4 rfl rfl rfl rfl rfl rfl rfl ⟨rfl, rfl, rfl, rfl, rfl⟩ rfl rfl rfl rfl rfl (by kernel_rfl) Try.func4 (by kernel_rfl)
    (of_decide_eq_true (by kernel_rfl)) (by unfold Func.isWrapper; first | (rw [if_pos (by decide +kernel)]; kernel_rfl) | (rw [if_neg (by decide +kernel)]; exact ⟨rfl, rfl⟩))
    (fun os started H enc _ => traceRinged_lifted os started H enc)
#print axioms traceRinged_holds
end Go.Proofs.Ytmfalafolpfhiaa
