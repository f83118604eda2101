/- Proved: for every list of acts the call ringlaw4.SockAsked returns true and leaves its argument as it was. No condition. -/
import Derived.Test.YtmoanemhjcdjkaaRows
import Derived.Test.YtmoanemhjcdjkaaLaw
import Derived.Test.YtmoanemhjcdjkaaRecs
import Derived.Test.YtmoanemhjcdjkaaSrG
namespace Go.Proofs.Ytmoanemhjcdjkaa
open Go.ChangeShapes Go.WideShapes Go.ChangeAt Go.RowKit Go.Joins Go.Deep
set_option linter.unusedVariables false
section
variable {H : Type}
theorem pa_act {enc : TypeId × Value → H} {w : World} {base : Nat} {held : Bool} {fuel : Nat} {cs : List Value} {x : DataW H × List MemPlace} (h : DataW.trod enc Try.prog w base (fun _ => true) held fuel 32 cs = some x) (hl : cs.length = 4) : ∃ o : Pact, cs = o.cells ∧ o.Fine w w.heap.size := by
  obtain ⟨n, hf⟩ := struct_fields Try.underlying32 (by kernel_rfl) h
  match cs, hl with
  | [v0, v1, v2, v3], _ =>
    obtain ⟨y0, g0⟩ := hf 0 _ v0 rfl rfl
    obtain ⟨y1, g1⟩ := hf 1 _ v1 rfl rfl
    obtain ⟨y2, g2⟩ := hf 2 _ v2 rfl rfl
    obtain ⟨y3, g3⟩ := hf 3 _ v3 rfl rfl
    obtain ⟨x0, rfl, _⟩ := one_int Try.underlying3 g0
    obtain ⟨x1, rfl, hw1⟩ := one_int Try.underlying3 g1
    obtain ⟨x2, rfl, _⟩ := one_int Try.underlying3 g2
    obtain ⟨A3, n3, c3, bs, rfl, hr3, hn3, hc3, _⟩ := open_ri Try.underlying30 Try.underlying5 (by kernel_rfl) g3
    unfold maxLen at hc3
    exact ⟨⟨x0, x1, x2, A3, n3, c3, bs⟩, rfl, ⟨hr3.rb, hn3, by show c3 ≤ _; omega⟩, hw1⟩
end
theorem Try.own_sockAsked : ownKnob Try.prog.godebug = none := by kernel_rfl
theorem Try.laidOut_sockAsked : laidOutB Try.prog = true := by kernel_rfl

set_option maxRecDepth 100000 in
theorem sockAsked_lifted (os : Os) (started : os.Started) (H : Type) (enc : TypeId × Value → H) :
    ReturnsInHanded {} Try.checked os 3 .any (Rows.sockAskedSpec.pre6 enc Try.prog Try.f3 Rows.sockAskedRow.domain false) (Rows.sockAskedSpec.post enc Try.prog Try.f3 false true false false) := by
  refine law_lifted (C := Try.checked) Try.own_sockAsked started (by kernel_rfl) Try.func3
    (ChangeSpec.witness6 (enc := enc) (C := Try.checked) false ⟨#[], #[.slice none 0 0], []⟩ 8 (by kernel_rfl) (by kernel_rfl) (by kernel_rfl) (by kernel_rfl))
    Try.laidOut_sockAsked (by kernel_rfl) rfl ?_ (tb := 4) (by kernel_rfl) Try.underlying4 ?_
  · intro ds h
    match ds, h with
    | [d0], _ => rfl
  · intro W base args ds ps hval0 hA0 hfz hsz0
    have hval : ∀ (j : Nat) t v, Try.f3.params[j]? = some t → args[j]? = some v → Value.okWide Try.prog W .any base t v := hval0
    have hA : DataW.TrodAll enc Try.prog W 0 (fun _ => true) true Try.f3.params.toList args.toList ds ps := hA0
    have hsz : (DataW.weightsEach Try.prog Try.f3.params.toList ds).all (· ≤ reachBytes) = true := hsz0
    rw [Try.params3] at hA hval hsz
    obtain ⟨v0, d0, rfl, rfl, h0⟩ := trodAll_one hA
    obtain ⟨fu0, h0⟩ := h0
    obtain ⟨aa0, nn0, cc0, rfl⟩ := okWide_slice Try.underlying22 (hval 0 22 v0 rfl rfl)
    obtain ⟨A0, n0, c0, os, e0, hr0, hok0, hnc0, hcm0, _⟩ := open_recs Pact.zero (cl := Pact.cells) (s := 4) (fun _ => rfl) (by omega) (fun o => o.Fine W W.heap.size) Try.underlying22 (by kernel_rfl) (fun fu cs y hy hl => pa_act hy hl) (v := .slice aa0 nn0 cc0) (by simpa [Value.cells] using h0)
    rw [e0]
    exact law_sockAsked A0 n0 c0 os W ⟨hr0, hok0⟩ (by unfold maxLen at hcm0; omega)

theorem sockAsked_holds : Rows.SockAskedSaid :=
  OpenClaim.holds_of_wide 3 Try.f3 rfl rfl rfl rfl rfl rfl rfl ⟨rfl, rfl, rfl, rfl, rfl⟩ rfl rfl rfl rfl rfl (by kernel_rfl) Try.func3 (by kernel_rfl)
    (of_decide_eq_true (by kernel_rfl)) (by unfold Func.isWrapper; first | (rw [if_pos (by decide +kernel)]; kernel_rfl) | (rw [if_neg (by decide +kernel)]; exact ⟨rfl, rfl⟩))
    (fun os started H enc _ => sockAsked_lifted os started H enc)
#print axioms sockAsked_holds
end Go.Proofs.Ytmoanemhjcdjkaa
