/- Proved: for every list of uses, every number of processors and every time the call ringlaw1.AdmitSays returns true and leaves its arguments as they were. No condition. -/
import Derived.Test.YtjcbnanajelpjaaRows
import Derived.Test.YtjcbnanajelpjaaAdE
namespace Go.Proofs.Ytjcbnanajelpjaa
open Go.ChangeShapes Go.WideShapes Go.ChangeAt Go.RowKit Go.Joins Go.Deep
set_option linter.unusedVariables false
section
variable {H : Type} {enc : TypeId × Value → H} {P : Program} {w : World} {base : Nat} {held : Bool}
theorem us_cells {e : TypeId} {f0 f1 : Field} {fuel : Nat} {cs : List Value} {x : DataW H × List MemPlace} (he : P.underlying e = some (.struct #[f0, f1]))
    (hone : oneCellFields P #[f0, f1] = true) (h0 : P.underlying f0.type = some (.int .i64)) (h1 : P.underlying f1.type = some (.int .i64))
    (h : DataW.trod enc P w base (fun _ => true) held fuel e cs = some x) (hl : cs.length = 2) : ∃ r : Us, cs = r.cells ∧ True := by
  obtain ⟨n, hf⟩ := struct_fields he hone h
  match cs, hl with
  | [v0, v1], _ =>
    obtain ⟨y0, hy0⟩ := hf 0 f0 v0 rfl rfl
    obtain ⟨y1, hy1⟩ := hf 1 f1 v1 rfl rfl
    obtain ⟨x0, rfl, _⟩ := one_int h0 hy0
    obtain ⟨x1, rfl, _⟩ := one_int h1 hy1
    exact ⟨⟨x0, x1⟩, rfl, trivial⟩
end
theorem Try.own_admitSays : ownKnob Try.prog.godebug = none := by kernel_rfl
theorem Try.laidOut_admitSays : laidOutB Try.prog = true := by kernel_rfl

set_option maxRecDepth 100000 in
theorem admitSays_lifted (os : Os) (started : os.Started) (H : Type) (enc : TypeId × Value → H) :
    ReturnsInHanded {} Try.checked os 6 .any (Rows.admitSaysSpec.pre6 enc Try.prog Try.f6 Rows.admitSaysRow.domain false) (Rows.admitSaysSpec.post enc Try.prog Try.f6 false true false false) := by
  refine law_lifted (C := Try.checked) Try.own_admitSays started (by kernel_rfl) Try.func6
    (ChangeSpec.witness6 (enc := enc) (C := Try.checked) false ⟨#[], #[.slice none 0 0, .int .i64 0, .int .i64 0], []⟩ 8 (by kernel_rfl) (by kernel_rfl) (by kernel_rfl) (by kernel_rfl))
    Try.laidOut_admitSays (by kernel_rfl) rfl ?_ (tb := 4) (by kernel_rfl) Try.underlying4 ?_
  · intro ds h
    match ds, h with
    | [d0, d1, d2], _ => rfl
  · intro W base args ds ps hval0 hA0 hfz hsz0
    have hval : ∀ (j : Nat) t v, Try.f6.params[j]? = some t → args[j]? = some v → Value.okWide Try.prog W .any base t v := hval0
    have hA : DataW.TrodAll enc Try.prog W 0 (fun _ => true) true Try.f6.params.toList args.toList ds ps := hA0
    have hsz : (DataW.weightsEach Try.prog Try.f6.params.toList ds).all (· ≤ reachBytes) = true := hsz0
    rw [Try.params6] at hA hval hsz
    obtain ⟨v0, v1, v2, d0, d1, d2, p0, p1, p2, rfl, rfl, rfl, h0, h1, h2⟩ := trodAll_three hA
    obtain ⟨fu0, h0⟩ := h0
    obtain ⟨aa0, nn0, cc0, rfl⟩ := okWide_slice Try.underlying52 (hval 0 52 v0 rfl rfl)
    have hw0 : ∀ m ∈ (d0 : DataW H).weights Try.prog 52, m ≤ reachBytes := fun m hm => by
      have := List.all_eq_true.1 hsz m (by simp only [DataW.weightsEach, List.append_nil]; exact List.mem_append_left _ hm)
      simpa using this
    obtain ⟨A0, n0, c0, us, e0, hr0, hok0, hnc0, hcm0, hwt0⟩ := open_recs Us.zero (cl := Us.cells) (s := 2) (fun _ => rfl) (by omega) (fun _ => True) Try.underlying52 (by kernel_rfl) (fun fu cs y hy hl => us_cells Try.underlying67 (by kernel_rfl) Try.underlying3 Try.underlying3 hy hl) (v := .slice aa0 nn0 cc0) (by simpa [Value.cells] using h0)
    rw [e0]
    have hby0 : Try.prog.bytesOf 67 = 16 := by kernel_rfl
    have hb0 := hwt0 reachBytes hw0
    rw [hby0] at hb0
    unfold reachBytes at hb0
    obtain ⟨fu1, h1⟩ := h1
    obtain ⟨x1, rfl⟩ := okWide_int Try.underlying3 (hval 1 3 v1 rfl rfl)
    obtain ⟨x1', e1', r1⟩ := one_int (v := .int .i64 x1) Try.underlying3 (by simpa [Value.cells] using h1)
    have he1 : x1' = x1 := by injection e1' with _ h; exact h.symm
    subst he1
    obtain ⟨fu2, h2⟩ := h2
    obtain ⟨x2, rfl⟩ := okWide_int Try.underlying3 (hval 2 3 v2 rfl rfl)
    obtain ⟨x2', e2', r2⟩ := one_int (v := .int .i64 x2) Try.underlying3 (by simpa [Value.cells] using h2)
    have he2 : x2' = x2 := by injection e2' with _ h; exact h.symm
    subst he2
    exact law_admitSays A0 n0 c0 us x1' x2' W hr0 (by omega)

theorem admitSays_holds : Rows.AdmitSaysSaid :=
  OpenClaim.holds_of_wide 6 Try.f6 rfl rfl rfl rfl rfl rfl rfl ⟨rfl, rfl, rfl, rfl, rfl⟩ rfl rfl rfl rfl rfl (by kernel_rfl) Try.func6 (by kernel_rfl)
    (of_decide_eq_true (by kernel_rfl)) (by unfold Func.isWrapper; first | (rw [if_pos (by decide +kernel)]; kernel_rfl) | (rw [if_neg (by decide +kernel)]; exact ⟨rfl, rfl⟩))
    (fun os started H enc _ => admitSays_lifted os started H enc)
#print axioms admitSays_holds
end Go.Proofs.Ytjcbnanajelpjaa
