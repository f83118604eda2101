/- Proved: for every first place, whether it calls or listens, and every list of acts the call ringlaw4.StreamAsked returns true and leaves its arguments as they were. No condition. -/
import Derived.Test.YthlhjaacjhlkhaaRows
import Derived.Test.YthlhjaacjhlkhaaLaw
import Derived.Test.YthlhjaacjhlkhaaRecs
import Derived.Test.YthlhjaacjhlkhaaOpen
import Derived.Test.YthlhjaacjhlkhaaSgI
namespace Go.Proofs.Ythlhjaacjhlkhaa
open Go.ChangeShapes Go.WideShapes Go.ChangeAt Go.RowKit Go.Joins Go.Deep
set_option linter.unusedVariables false
section
variable {H : Type}
/-- The fields of a struct. -/
theorem struct_parts {enc : TypeId × Value → H} {P : Program} {w : World} {base : Nat} {held : Bool} {e : TypeId} {fs : Array Field} {fuel : Nat} {cs : List Value} {x : DataW H × List MemPlace} (he : P.underlying e = some (.struct fs))
    (h : DataW.trod enc P w base (fun _ => true) held fuel e cs = some x) : ∃ n, ∀ (j : Nat) (f : Field), fs[j]? = some f → ∃ y, DataW.trod enc P w base (fun _ => true) held n f.type ((cs.drop f.offset).take (P.cellsOf f.type)) = some y := by
  obtain ⟨ys, n, _, _, hl, hyl, hf⟩ := DataW.trod_struct he h
  refine ⟨n, fun j f hj => ?_⟩
  have h1 := hf j f hj
  cases hy : ys[j]? with
  | none =>
    have : j < fs.size := (Array.getElem?_eq_some_iff.1 hj).1
    rw [List.getElem?_eq_getElem (by omega)] at hy; cases hy
  | some y => rw [hy] at h1; exact ⟨_, h1⟩
set_option maxRecDepth 100000 in
theorem sa_act {enc : TypeId × Value → H} {w : World} {base : Nat} {held : Bool} {fuel : Nat} {cs : List Value} {x : DataW H × List MemPlace} (h : DataW.trod enc Try.prog w base (fun _ => true) held fuel 70 cs = some x) (hl : cs.length = 8) : ∃ o : Sact, cs = o.cells ∧ o.Fine w w.heap.size := by
  have k3 : Try.prog.cellsOf 3 = 1 := by kernel_rfl
  have k23 : Try.prog.cellsOf 23 = 1 := by kernel_rfl
  have k25 : Try.prog.cellsOf 25 = 5 := by kernel_rfl
  obtain ⟨n, hf⟩ := struct_parts Try.underlying70 h
  match cs, hl with
  | [v0, v1, v2, v3, v4, v5, v6, v7], _ =>
    obtain ⟨y0, g0⟩ := hf 0 _ rfl
    obtain ⟨y1, g1⟩ := hf 1 _ rfl
    obtain ⟨y2, g2⟩ := hf 2 _ rfl
    obtain ⟨y3, g3⟩ := hf 3 _ rfl
    replace g0 : DataW.trod enc Try.prog w base (fun _ => true) held n 3 (([v0, v1, v2, v3, v4, v5, v6, v7].drop 0).take (Try.prog.cellsOf 3)) = some y0 := g0
    replace g1 : DataW.trod enc Try.prog w base (fun _ => true) held n 3 (([v0, v1, v2, v3, v4, v5, v6, v7].drop 1).take (Try.prog.cellsOf 3)) = some y1 := g1
    replace g2 : DataW.trod enc Try.prog w base (fun _ => true) held n 23 (([v0, v1, v2, v3, v4, v5, v6, v7].drop 2).take (Try.prog.cellsOf 23)) = some y2 := g2
    replace g3 : DataW.trod enc Try.prog w base (fun _ => true) held n 25 (([v0, v1, v2, v3, v4, v5, v6, v7].drop 3).take (Try.prog.cellsOf 25)) = some y3 := g3
    rw [k3] at g0 g1
    rw [k23] at g2
    rw [k25] at g3
    simp only [List.drop, List.take] at g0 g1 g2 g3
    obtain ⟨x0, rfl, _⟩ := one_int Try.underlying3 g0
    obtain ⟨x1, rfl, _⟩ := one_int Try.underlying3 g1
    obtain ⟨A3, n3, c3, bs, rfl, hr3, hn3, hc3, _⟩ := open_ri Try.underlying23 Try.underlying5 (by kernel_rfl) g2
    obtain ⟨n', hf'⟩ := struct_fields Try.underlying25 (by kernel_rfl) g3
    obtain ⟨z0, q0⟩ := hf' 0 _ v3 rfl rfl
    obtain ⟨z1, q1⟩ := hf' 1 _ v4 rfl rfl
    obtain ⟨z2, q2⟩ := hf' 2 _ v5 rfl rfl
    obtain ⟨z3, q3⟩ := hf' 3 _ v6 rfl rfl
    obtain ⟨z4, q4⟩ := hf' 4 _ v7 rfl rfl
    obtain ⟨s0, rfl, r0⟩ := one_int Try.underlying22 q0
    obtain ⟨s1, rfl, r1⟩ := one_int Try.underlying22 q1
    obtain ⟨s2, rfl, r2⟩ := one_int Try.underlying3 q2
    obtain ⟨s3, rfl, r3⟩ := one_int Try.underlying3 q3
    obtain ⟨A4, n4, c4, ds, rfl, hr4, hn4, hc4, _⟩ := open_ri Try.underlying23 Try.underlying5 (by kernel_rfl) q4
    unfold maxLen at hc3 hc4
    exact ⟨⟨x0, x1, A3, n3, c3, bs, s0, s1, s2, s3, A4, n4, c4, ds⟩, rfl, hr3.rb, ⟨hn3, by show c3 ≤ _; omega⟩, hr4.rb, ⟨hn4, by show c4 ≤ _; omega⟩, u32_range r0, u32_range r1, i64_range r2, i64_range r3⟩
end
theorem Try.own_streamAsked : ownKnob Try.prog.godebug = none := by kernel_rfl
theorem Try.laidOut_streamAsked : laidOutB Try.prog = true := by kernel_rfl

set_option maxRecDepth 100000 in
theorem streamAsked_lifted (os : Os) (started : os.Started) (H : Type) (enc : TypeId × Value → H) :
    ReturnsInHanded {} Try.checked os 7 .any (Rows.streamAskedSpec.pre6 enc Try.prog Try.f7 Rows.streamAskedRow.domain false) (Rows.streamAskedSpec.post enc Try.prog Try.f7 false true false false) := by
  refine law_lifted (C := Try.checked) Try.own_streamAsked started (by kernel_rfl) Try.func7
    (ChangeSpec.witness6 (enc := enc) (C := Try.checked) false ⟨#[], #[.bool false, .int .u32 0, .slice none 0 0], []⟩ 8 (by kernel_rfl) (by kernel_rfl) (by kernel_rfl) (by kernel_rfl))
    Try.laidOut_streamAsked (by kernel_rfl) rfl ?_ (tb := 4) (by kernel_rfl) Try.underlying4 ?_
  · intro ds h
    match ds, h with
    | [d0, d1, d2], _ => rfl
  · intro W base args ds ps hval0 hA0 hfz hsz0
    have hval : ∀ (j : Nat) t v, Try.f7.params[j]? = some t → args[j]? = some v → Value.okWide Try.prog W .any base t v := hval0
    have hA : DataW.TrodAll enc Try.prog W 0 (fun _ => true) true Try.f7.params.toList args.toList ds ps := hA0
    have hsz : (DataW.weightsEach Try.prog Try.f7.params.toList ds).all (· ≤ reachBytes) = true := hsz0
    rw [Try.params7] at hA hval hsz
    obtain ⟨v0, v1, v2, d0, d1, d2, p0, p1, p2, rfl, rfl, rfl, h0, h1, h2⟩ := trodAll_three hA
    obtain ⟨b0, rfl⟩ := okWide_bool Try.underlying4 (hval 0 4 v0 rfl rfl)
    obtain ⟨fu1, h1⟩ := h1
    obtain ⟨x1, rfl⟩ := okWide_int Try.underlying22 (hval 1 22 v1 rfl rfl)
    obtain ⟨x1', e1', r1⟩ := one_int (v := .int .u32 x1) Try.underlying22 (by simpa [Value.cells] using h1)
    have he1 : x1' = x1 := by injection e1' with _ h; exact h.symm
    subst he1
    obtain ⟨fu2, h2⟩ := h2
    obtain ⟨aa2, nn2, cc2, rfl⟩ := okWide_slice Try.underlying61 (hval 2 61 v2 rfl rfl)
    obtain ⟨A2, n2, c2, os, e2, hr2, hok2, hnc2, hcm2, _⟩ := open_recs Sact.zero (cl := Sact.cells) (s := 8) (fun _ => rfl) (by omega) (fun o => o.Fine W W.heap.size) Try.underlying61 (by kernel_rfl) (fun fu cs y hy hl => sa_act hy hl) (v := .slice aa2 nn2 cc2) (by simpa [Value.cells] using h2)
    rw [e2]
    exact law_streamAsked b0 x1' (u32_range r1) A2 n2 c2 os W ⟨hr2, hok2⟩ (by unfold maxLen at hcm2; omega)

theorem streamAsked_holds : Rows.StreamAskedSaid :=
  OpenClaim.holds_of_wide 7 Try.f7 rfl rfl rfl rfl rfl rfl rfl ⟨rfl, rfl, rfl, rfl, rfl⟩ rfl rfl rfl rfl rfl (by kernel_rfl) Try.func7 (by kernel_rfl)
    (of_decide_eq_true (by kernel_rfl)) (by unfold Func.isWrapper; first | (rw [if_pos (by decide +kernel)]; kernel_rfl) | (rw [if_neg (by decide +kernel)]; exact ⟨rfl, rfl⟩))
    (fun os started H enc _ => streamAsked_lifted os started H enc)
#print axioms streamAsked_holds
end Go.Proofs.Ythlhjaacjhlkhaa
