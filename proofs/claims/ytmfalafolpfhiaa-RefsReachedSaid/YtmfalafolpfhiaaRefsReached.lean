/- Proved: for every list of edges and every list of nodes the call ringlaw4.RefsReached returns true and leaves its arguments as they were. No condition. -/
import Derived.Test.YtmfalafolpfhiaaRows
import Derived.Test.YtmfalafolpfhiaaLaw
import Derived.Test.YtmfalafolpfhiaaOpen
import Derived.Test.YtmfalafolpfhiaaRecs
import Derived.Test.YtmfalafolpfhiaaRrH
namespace Go.Proofs.Ytmfalafolpfhiaa
open Go.ChangeShapes Go.WideShapes Go.ChangeAt Go.RowKit Go.Joins Go.Deep
set_option linter.unusedVariables false
section
variable {H : Type} {enc : TypeId × Value → H} {P : Program} {w : World} {base : Nat} {held : Bool}
theorem edge_cells {fuel : Nat} {cs : List Value} {x : DataW H × List MemPlace} (h : DataW.trod enc Try.prog w base (fun _ => true) held fuel 37 cs = some x) (hl : cs.length = 2) : ∃ r : Int × Int, cs = edgeCl r ∧ True := by
  obtain ⟨n, hf⟩ := struct_fields Try.underlying37 (by kernel_rfl) h
  match cs, hl with
  | [v0, v1], _ =>
    obtain ⟨y0, g0⟩ := hf 0 _ v0 rfl rfl
    obtain ⟨y1, g1⟩ := hf 1 _ v1 rfl rfl
    obtain ⟨x0, rfl, r0⟩ := one_int Try.underlying3 g0
    obtain ⟨x1, rfl, r1⟩ := one_int Try.underlying3 g1
    exact ⟨(x0, x1), rfl, trivial⟩
end
theorem Try.own_refsReached : ownKnob Try.prog.godebug = none := by kernel_rfl
theorem Try.laidOut_refsReached : laidOutB Try.prog = true := by kernel_rfl

set_option maxRecDepth 100000 in
theorem refsReached_lifted (os : Os) (started : os.Started) (H : Type) (enc : TypeId × Value → H) :
    ReturnsInHanded {} Try.checked os 3 .any (Rows.refsReachedSpec.pre6 enc Try.prog Try.f3 Rows.refsReachedRow.domain false) (Rows.refsReachedSpec.post enc Try.prog Try.f3 false true false false) := by
  refine law_lifted (C := Try.checked) Try.own_refsReached started (by kernel_rfl) Try.func3
    (ChangeSpec.witness6 (enc := enc) (C := Try.checked) false ⟨#[], #[.slice none 0 0, .slice none 0 0], []⟩ 8 (by kernel_rfl) (by kernel_rfl) (by kernel_rfl) (by kernel_rfl))
    Try.laidOut_refsReached (by kernel_rfl) rfl ?_ (tb := 4) (by kernel_rfl) Try.underlying4 ?_
  · intro ds h
    match ds, h with
    | [d0, d1], _ => rfl
  · intro W base args ds ps hval0 hA0 hfz hsz0
    have hval : ∀ (j : Nat) t v, Try.f3.params[j]? = some t → args[j]? = some v → Value.okWide Try.prog W .any base t v := hval0
    have hA : DataW.TrodAll enc Try.prog W 0 (fun _ => true) true Try.f3.params.toList args.toList ds ps := hA0
    have hsz : (DataW.weightsEach Try.prog Try.f3.params.toList ds).all (· ≤ reachBytes) = true := hsz0
    rw [Try.params3] at hA hval hsz
    obtain ⟨v0, v1, d0, d1, p0, p1, rfl, rfl, rfl, h0, h1⟩ := trodAll_two hA
    obtain ⟨fu0, h0⟩ := h0
    obtain ⟨aa0, nn0, cc0, rfl⟩ := okWide_slice Try.underlying22 (hval 0 22 v0 rfl rfl)
    have hw0 : ∀ m ∈ (d0 : DataW H).weights Try.prog 22, m ≤ reachBytes := fun m hm => by
      have := List.all_eq_true.1 hsz m (by simp only [DataW.weightsEach, List.append_nil]; exact List.mem_append_left _ hm)
      simpa using this
    obtain ⟨A0, n0, c0, es, e0, hr0, hok0, hnc0, hcm0, hwt0⟩ := open_recs (0, 0) (cl := edgeCl) (s := 2) (fun _ => rfl) (by omega) (fun o => True) Try.underlying22 (by kernel_rfl) (fun fu cs y hy hl => edge_cells hy hl) (v := .slice aa0 nn0 cc0) (by simpa [Value.cells] using h0)
    rw [e0]
    have hby0 : Try.prog.bytesOf 37 = 16 := by kernel_rfl
    have hb0 := hwt0 reachBytes hw0
    rw [hby0] at hb0
    unfold reachBytes at hb0
    obtain ⟨fu1, h1⟩ := h1
    obtain ⟨aa1, nn1, cc1, rfl⟩ := okWide_slice Try.underlying23 (hval 1 23 v1 rfl rfl)
    have hw1 : ∀ m ∈ (d1 : DataW H).weights Try.prog 23, m ≤ reachBytes := fun m hm => by
      have := List.all_eq_true.1 hsz m (by simp only [DataW.weightsEach, List.append_nil]; exact List.mem_append_right _ (hm))
      simpa using this
    obtain ⟨A1, n1, c1, fs, e1, hr1, hn1, hc1, hwt1⟩ := open_ri Try.underlying23 Try.underlying3 (by kernel_rfl) (v := .slice aa1 nn1 cc1) (by simpa [Value.cells] using h1)
    rw [e1]
    have hby1 : Try.prog.bytesOf 3 = 8 := by kernel_rfl
    have hb1 := hwt1 reachBytes hw1
    rw [hby1] at hb1
    unfold reachBytes at hb1
    exact law_refsReached A0 A1 n0 c0 n1 c1 es fs W hr0 (RD.of_ri hr1) (by omega) (by omega)

theorem refsReached_holds : Rows.RefsReachedSaid :=
  OpenClaim.holds_of_wide 3 Try.f3 rfl rfl rfl rfl rfl rfl rfl ⟨rfl, rfl, rfl, rfl, rfl⟩ rfl rfl rfl rfl rfl (by kernel_rfl) Try.func3 (by kernel_rfl)
    (of_decide_eq_true (by kernel_rfl)) (by unfold Func.isWrapper; first | (rw [if_pos (by decide +kernel)]; kernel_rfl) | (rw [if_neg (by decide +kernel)]; exact ⟨rfl, rfl⟩))
    (fun os started H enc _ => refsReached_lifted os started H enc)
#print axioms refsReached_holds
end Go.Proofs.Ytmfalafolpfhiaa
