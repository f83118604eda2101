/- Proved: for every list of records the call ringlaw4.TraceOrdered returns true and leaves its argument as it was. No condition. -/
import Derived.Test.YtmfalafolpfhiaaRows
import Derived.Test.YtmfalafolpfhiaaLaw
import Derived.Test.YtmfalafolpfhiaaOpen
import Derived.Test.YtmfalafolpfhiaaRecs
import Derived.Test.YtmfalafolpfhiaaToE
namespace Go.Proofs.Ytmfalafolpfhiaa
open Go.ChangeShapes Go.WideShapes Go.ChangeAt Go.RowKit Go.Joins Go.Deep
set_option linter.unusedVariables false
section
variable {H : Type} {enc : TypeId × Value → H} {P : Program} {w : World} {base : Nat} {held : Bool}
theorem rec_cells {fuel : Nat} {cs : List Value} {x : DataW H × List MemPlace} (h : DataW.trod enc Try.prog w base (fun _ => true) held fuel 51 cs = some x) (hl : cs.length = 4) : ∃ r : Rc, cs = Rc.cells r ∧ True := by
  obtain ⟨n, hf⟩ := struct_fields Try.underlying51 (by kernel_rfl) h
  match cs, hl with
  | [v0, v1, v2, v3], _ =>
    obtain ⟨y0, g0⟩ := hf 0 _ v0 rfl rfl
    obtain ⟨y1, g1⟩ := hf 1 _ v1 rfl rfl
    obtain ⟨y2, g2⟩ := hf 2 _ v2 rfl rfl
    obtain ⟨y3, g3⟩ := hf 3 _ v3 rfl rfl
    obtain ⟨x0, rfl, r0⟩ := one_int Try.underlying3 g0
    obtain ⟨x1, rfl, r1⟩ := one_int Try.underlying3 g1
    obtain ⟨x2, rfl, r2⟩ := one_int Try.underlying3 g2
    obtain ⟨x3, rfl, r3⟩ := one_int Try.underlying3 g3
    exact ⟨⟨x0, x1, x2, x3⟩, rfl, trivial⟩
end
theorem Try.own_traceOrdered : ownKnob Try.prog.godebug = none := by kernel_rfl
theorem Try.laidOut_traceOrdered : laidOutB Try.prog = true := by kernel_rfl

set_option maxRecDepth 100000 in
theorem traceOrdered_lifted (os : Os) (started : os.Started) (H : Type) (enc : TypeId × Value → H) :
    ReturnsInHanded {} Try.checked os 5 .any (Rows.traceOrderedSpec.pre6 enc Try.prog Try.f5 Rows.traceOrderedRow.domain false) (Rows.traceOrderedSpec.post enc Try.prog Try.f5 false true false false) := by
  refine law_lifted (C := Try.checked) Try.own_traceOrdered started (by kernel_rfl) Try.func5
    (ChangeSpec.witness6 (enc := enc) (C := Try.checked) false ⟨#[], #[.slice none 0 0], []⟩ 8 (by kernel_rfl) (by kernel_rfl) (by kernel_rfl) (by kernel_rfl))
    Try.laidOut_traceOrdered (by kernel_rfl) rfl ?_ (tb := 4) (by kernel_rfl) Try.underlying4 ?_
  · intro ds h
    match ds, h with
    | [d0], _ => rfl
  · intro W base args ds ps hval0 hA0 hfz hsz0
    have hval : ∀ (j : Nat) t v, Try.f5.params[j]? = some t → args[j]? = some v → Value.okWide Try.prog W .any base t v := hval0
    have hA : DataW.TrodAll enc Try.prog W 0 (fun _ => true) true Try.f5.params.toList args.toList ds ps := hA0
    have hsz : (DataW.weightsEach Try.prog Try.f5.params.toList ds).all (· ≤ reachBytes) = true := hsz0
    rw [Try.params5] at hA hval hsz
    obtain ⟨v0, d0, rfl, rfl, h0⟩ := trodAll_one hA
    obtain ⟨fu0, h0⟩ := h0
    obtain ⟨aa0, nn0, cc0, rfl⟩ := okWide_slice Try.underlying33 (hval 0 33 v0 rfl rfl)
    obtain ⟨A0, n0, c0, rs, e0, hr0, hok0, hnc0, hcm0, hwt0⟩ := open_recs Rc.zero (cl := Rc.cells) (s := 4) (fun _ => rfl) (by omega) (fun o => True) Try.underlying33 (by kernel_rfl) (fun fu cs y hy hl => rec_cells hy hl) (v := .slice aa0 nn0 cc0) (by simpa [Value.cells] using h0)
    rw [e0]
    exact law_traceOrdered order_any A0 n0 c0 rs W hr0 (by unfold maxLen at hcm0; omega)

theorem traceOrdered_holds : Rows.TraceOrderedSaid :=
  OpenClaim.holds_of_wide 5 Try.f5 rfl rfl rfl rfl rfl rfl rfl ⟨rfl, rfl, rfl, rfl, rfl⟩ rfl rfl rfl rfl rfl (by kernel_rfl) Try.func5 (by kernel_rfl)
    (of_decide_eq_true (by kernel_rfl)) (by unfold Func.isWrapper; first | (rw [if_pos (by decide +kernel)]; kernel_rfl) | (rw [if_neg (by decide +kernel)]; exact ⟨rfl, rfl⟩))
    (fun os started H enc _ => traceOrdered_lifted os started H enc)
#print axioms traceOrdered_holds
end Go.Proofs.Ytmfalafolpfhiaa
