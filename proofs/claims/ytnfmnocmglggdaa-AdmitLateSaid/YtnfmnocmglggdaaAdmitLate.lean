/- Proved: for every list of uses and every number of ticks the call ringlaw1.AdmitLate returns true and leaves its arguments as they were. No condition. -/
import Derived.Test.YtnfmnocmglggdaaRows
import Derived.Test.YtnfmnocmglggdaaLaw
import Derived.Test.YtnfmnocmglggdaaOpen
import Derived.Test.YtnfmnocmglggdaaRecs
import Derived.Test.YtnfmnocmglggdaaLtG
namespace Go.Proofs.Ytnfmnocmglggdaa
open Go.ChangeShapes Go.WideShapes Go.ChangeAt Go.RowKit Go.Joins Go.Deep
set_option linter.unusedVariables false
section
variable {H : Type} {enc : TypeId × Value → H} {P : Program} {w : World} {base : Nat} {held : Bool}
theorem us_cells {e : TypeId} {f0 f1 : Field} {fuel : Nat} {cs : List Value} {x : DataW H × List MemPlace} (he : P.underlying e = some (.struct #[f0, f1]))
    (hone : oneCellFields P #[f0, f1] = true) (h0 : P.underlying f0.type = some (.int .i64)) (h1 : P.underlying f1.type = some (.int .i64))
    (h : DataW.trod enc P w base (fun _ => true) held fuel e cs = some x) (hl : cs.length = 2) : ∃ r : Us, cs = r.cells ∧ True := by
  obtain ⟨n, hf⟩ := struct_fields he hone h
  match cs, hl with
  | [v0, v1], _ =>
    obtain ⟨y0, hy0⟩ := hf 0 f0 v0 rfl rfl
    obtain ⟨y1, hy1⟩ := hf 1 f1 v1 rfl rfl
    obtain ⟨x0, rfl, _⟩ := one_int h0 hy0
    obtain ⟨x1, rfl, _⟩ := one_int h1 hy1
    exact ⟨⟨x0, x1⟩, rfl, trivial⟩
end
theorem Try.own_admitLate : ownKnob Try.prog.godebug = none := by kernel_rfl
theorem Try.laidOut_admitLate : laidOutB Try.prog = true := by kernel_rfl

set_option maxRecDepth 100000 in
theorem admitLate_lifted (os : Os) (started : os.Started) (H : Type) (enc : TypeId × Value → H) :
    ReturnsInHanded {} Try.checked os 3 .any (Rows.admitLateSpec.pre6 enc Try.prog Try.f3 Rows.admitLateRow.domain false) (Rows.admitLateSpec.post enc Try.prog Try.f3 false true false false) := by
  refine law_lifted (C := Try.checked) Try.own_admitLate started (by kernel_rfl) Try.func3
    (ChangeSpec.witness6 (enc := enc) (C := Try.checked) false ⟨#[], #[.slice none 0 0, .int .i64 0], []⟩ 8 (by kernel_rfl) (by kernel_rfl) (by kernel_rfl) (by kernel_rfl))
    Try.laidOut_admitLate (by kernel_rfl) rfl ?_ (tb := 4) (by kernel_rfl) Try.underlying4 ?_
  · intro ds h
    match ds, h with
    | [d0, d1], _ => rfl
  · intro W base args ds ps hval0 hA0 hfz hsz0
    have hval : ∀ (j : Nat) t v, Try.f3.params[j]? = some t → args[j]? = some v → Value.okWide Try.prog W .any base t v := hval0
    have hA : DataW.TrodAll enc Try.prog W 0 (fun _ => true) true Try.f3.params.toList args.toList ds ps := hA0
    have hsz : (DataW.weightsEach Try.prog Try.f3.params.toList ds).all (· ≤ reachBytes) = true := hsz0
    rw [Try.params3] at hA hval hsz
    obtain ⟨v0, v1, d0, d1, p0, p1, rfl, rfl, rfl, h0, h1⟩ := trodAll_two hA
    obtain ⟨fu0, h0⟩ := h0
    obtain ⟨aa0, nn0, cc0, rfl⟩ := okWide_slice Try.underlying22 (hval 0 22 v0 rfl rfl)
    have hw0 : ∀ m ∈ (d0 : DataW H).weights Try.prog 22, m ≤ reachBytes := fun m hm => by
      have := List.all_eq_true.1 hsz m (by simp only [DataW.weightsEach, List.append_nil]; exact List.mem_append_left _ hm)
      simpa using this
    obtain ⟨A0, n0, c0, us, e0, hr0, hok0, hnc0, hcm0, hwt0⟩ := open_recs Us.zero (cl := Us.cells) (s := 2) (fun _ => rfl) (by omega) (fun _ => True) Try.underlying22 (by kernel_rfl) (fun fu cs y hy hl => us_cells Try.underlying35 (by kernel_rfl) Try.underlying3 Try.underlying3 hy hl) (v := .slice aa0 nn0 cc0) (by simpa [Value.cells] using h0)
    rw [e0]
    have hby0 : Try.prog.bytesOf 35 = 16 := by kernel_rfl
    have hb0 := hwt0 reachBytes hw0
    rw [hby0] at hb0
    unfold reachBytes at hb0
    obtain ⟨fu1, h1⟩ := h1
    obtain ⟨x1, rfl⟩ := okWide_int Try.underlying3 (hval 1 3 v1 rfl rfl)
    obtain ⟨x1', e1', r1⟩ := one_int (v := .int .i64 x1) Try.underlying3 (by simpa [Value.cells] using h1)
    have he1 : x1' = x1 := by injection e1' with _ h; exact h.symm
    subst he1
    exact law_admitLate A0 n0 c0 us x1' W hr0 (by omega)

theorem admitLate_holds : Rows.AdmitLateSaid :=
  OpenClaim.holds_of_wide 3 Try.f3 rfl rfl rfl rfl rfl rfl rfl ⟨rfl, rfl, rfl, rfl, rfl⟩ rfl rfl rfl rfl rfl (by kernel_rfl) Try.func3 (by kernel_rfl)
    (of_decide_eq_true (by kernel_rfl)) (by unfold Func.isWrapper; first | (rw [if_pos (by decide +kernel)]; kernel_rfl) | (rw [if_neg (by decide +kernel)]; exact ⟨rfl, rfl⟩))
    (fun os started H enc _ => admitLate_lifted os started H enc)
#print axioms admitLate_holds
end Go.Proofs.Ytnfmnocmglggdaa
