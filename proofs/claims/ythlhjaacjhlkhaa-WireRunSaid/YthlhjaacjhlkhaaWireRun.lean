/- Proved: for every first place of both ends and every list of deeds at a line the call ringlaw4.WireRun returns true and leaves its arguments as they were. No condition. -/
import Derived.Test.YthlhjaacjhlkhaaRows
import Derived.Test.YthlhjaacjhlkhaaLaw
import Derived.Test.YthlhjaacjhlkhaaRecs
import Derived.Test.YthlhjaacjhlkhaaOpen
import Derived.Test.YthlhjaacjhlkhaaWwC
namespace Go.Proofs.Ythlhjaacjhlkhaa
open Go.ChangeShapes Go.WideShapes Go.ChangeAt Go.RowKit Go.Joins Go.Deep
set_option linter.unusedVariables false
section
variable {H : Type}
set_option maxRecDepth 100000 in
theorem sa_deed {enc : TypeId × Value → H} {w : World} {base : Nat} {held : Bool} {fuel : Nat} {cs : List Value} {x : DataW H × List MemPlace} (h : DataW.trod enc Try.prog w base (fun _ => true) held fuel 162 cs = some x) (hl : cs.length = 4) : ∃ o : De, cs = o.cells ∧ o.Fine w w.heap.size := by
  obtain ⟨n', hf'⟩ := struct_fields Try.underlying162 (by kernel_rfl) h
  match cs, hl with
  | [v0, v1, v2, v3], _ =>
    obtain ⟨z0, q0⟩ := hf' 0 _ v0 rfl rfl
    obtain ⟨z1, q1⟩ := hf' 1 _ v1 rfl rfl
    obtain ⟨z2, q2⟩ := hf' 2 _ v2 rfl rfl
    obtain ⟨z3, q3⟩ := hf' 3 _ v3 rfl rfl
    obtain ⟨s0, rfl, r0⟩ := one_int Try.underlying3 q0
    obtain ⟨s1, rfl, r1⟩ := one_int Try.underlying3 q1
    obtain ⟨s2, rfl, r2⟩ := one_int Try.underlying3 q2
    obtain ⟨A4, n4, c4, ds, rfl, hr4, hn4, hc4, _⟩ := open_ri Try.underlying23 Try.underlying5 (by kernel_rfl) q3
    exact ⟨⟨s0, s1, s2, A4, n4, c4, ds⟩, rfl, hr4.rb, hn4, by unfold maxLen at hc4; omega⟩
end
theorem Try.own_wireRun : ownKnob Try.prog.godebug = none := by kernel_rfl
theorem Try.laidOut_wireRun : laidOutB Try.prog = true := by kernel_rfl

set_option maxRecDepth 100000 in
theorem wireRun_lifted (os : Os) (started : os.Started) (H : Type) (enc : TypeId × Value → H) :
    ReturnsInHanded {} Try.checked os 9 .any (Rows.wireRunSpec.pre6 enc Try.prog Try.f9 Rows.wireRunRow.domain false) (Rows.wireRunSpec.post enc Try.prog Try.f9 false true false false) := by
  refine law_lifted (C := Try.checked) Try.own_wireRun started (by kernel_rfl) Try.func9
    (ChangeSpec.witness6 (enc := enc) (C := Try.checked) false ⟨#[], #[.int .u32 0, .int .u32 0, .slice none 0 0], []⟩ 8 (by kernel_rfl) (by kernel_rfl) (by kernel_rfl) (by kernel_rfl))
    Try.laidOut_wireRun (by kernel_rfl) rfl ?_ (tb := 4) (by kernel_rfl) Try.underlying4 ?_
  · intro ds h
    match ds, h with
    | [d0, d1, d2], _ => rfl
  · intro W base args ds ps hval0 hA0 hfz hsz0
    have hval : ∀ (j : Nat) t v, Try.f9.params[j]? = some t → args[j]? = some v → Value.okWide Try.prog W .any base t v := hval0
    have hA : DataW.TrodAll enc Try.prog W 0 (fun _ => true) true Try.f9.params.toList args.toList ds ps := hA0
    have hsz : (DataW.weightsEach Try.prog Try.f9.params.toList ds).all (· ≤ reachBytes) = true := hsz0
    rw [Try.params9] at hA hval hsz
    obtain ⟨v0, v1, v2, d0, d1, d2, p0, p1, p2, rfl, rfl, rfl, h0, h1, h2⟩ := trodAll_three hA
    obtain ⟨fu0, h0⟩ := h0
    obtain ⟨x0, rfl⟩ := okWide_int Try.underlying22 (hval 0 22 v0 rfl rfl)
    obtain ⟨x0', e0', r0⟩ := one_int (v := .int .u32 x0) Try.underlying22 (by simpa [Value.cells] using h0)
    have he0 : x0' = x0 := by injection e0' with _ h; exact h.symm
    subst he0
    obtain ⟨fu1, h1⟩ := h1
    obtain ⟨x1, rfl⟩ := okWide_int Try.underlying22 (hval 1 22 v1 rfl rfl)
    obtain ⟨x1', e1', r1⟩ := one_int (v := .int .u32 x1) Try.underlying22 (by simpa [Value.cells] using h1)
    have he1 : x1' = x1 := by injection e1' with _ h; exact h.symm
    subst he1
    obtain ⟨fu2, h2⟩ := h2
    obtain ⟨aa2, nn2, cc2, rfl⟩ := okWide_slice Try.underlying98 (hval 2 98 v2 rfl rfl)
    obtain ⟨A2, n2, c2, os, e2, hr2, hok2, hnc2, hcm2, _⟩ := open_recs De.zero (cl := De.cells) (s := 4) (fun _ => rfl) (by omega) (fun o => o.Fine W W.heap.size) Try.underlying98 (by kernel_rfl) (fun fu cs y hy hl => sa_deed hy hl) (v := .slice aa2 nn2 cc2) (by simpa [Value.cells] using h2)
    rw [e2]
    exact law_wireRun x0' x1' (u32_range r0) (u32_range r1) A2 n2 c2 os W ⟨hr2, hok2⟩ hnc2

theorem wireRun_holds : Rows.WireRunSaid :=
  OpenClaim.holds_of_wide 9 Try.f9 rfl rfl rfl rfl rfl rfl rfl ⟨rfl, rfl, rfl, rfl, rfl⟩ rfl rfl rfl rfl rfl (by kernel_rfl) Try.func9 (by kernel_rfl)
    (of_decide_eq_true (by kernel_rfl)) (by unfold Func.isWrapper; first | (rw [if_pos (by decide +kernel)]; kernel_rfl) | (rw [if_neg (by decide +kernel)]; exact ⟨rfl, rfl⟩))
    (fun os started H enc _ => wireRun_lifted os started H enc)
#print axioms wireRun_holds
end Go.Proofs.Ythlhjaacjhlkhaa
