/- Proved: for every image and every address the call ringlaw4.LoadByte returns true and leaves its arguments as they were. No condition. -/
import Derived.Test.YtgmpcdonmlhohaaRows
import Derived.Test.YtgmpcdonmlhohaaLbF
namespace Go.Proofs.Ytgmpcdonmlhohaa
open Go.ChangeShapes Go.WideShapes Go.ChangeAt Go.RowKit Go.Joins Go.Deep
set_option linter.unusedVariables false
theorem Try.own_loadByte : ownKnob Try.prog.godebug = none := by kernel_rfl
theorem Try.laidOut_loadByte : laidOutB Try.prog = true := by kernel_rfl

set_option maxRecDepth 100000 in
theorem loadByte_lifted (os : Os) (started : os.Started) (H : Type) (enc : TypeId × Value → H) :
    ReturnsInHanded {} Try.checked os 3 .any (Rows.loadByteSpec.pre6 enc Try.prog Try.f3 Rows.loadByteRow.domain false) (Rows.loadByteSpec.post enc Try.prog Try.f3 false true false false) := by
  refine law_lifted (C := Try.checked) Try.own_loadByte started (by kernel_rfl) Try.func3
    (ChangeSpec.witness6 (enc := enc) (C := Try.checked) false ⟨#[], #[.agg #[.int .u32 0, .slice none 0 0], .int .u32 0], []⟩ 8 (by kernel_rfl) (by kernel_rfl) (by kernel_rfl) (by kernel_rfl))
    Try.laidOut_loadByte (by kernel_rfl) rfl ?_ (tb := 4) (by kernel_rfl) Try.underlying4 ?_
  · intro ds h
    match ds, h with
    | [d0, d1], _ => rfl
  · intro W base args ds ps hval0 hA0 hfz hsz0
    have hval : ∀ (j : Nat) t v, Try.f3.params[j]? = some t → args[j]? = some v → Value.okWide Try.prog W .any base t v := hval0
    have hA : DataW.TrodAll enc Try.prog W 0 (fun _ => true) true Try.f3.params.toList args.toList ds ps := hA0
    have hsz : (DataW.weightsEach Try.prog Try.f3.params.toList ds).all (· ≤ reachBytes) = true := hsz0
    rw [Try.params3] at hA hval hsz
    obtain ⟨v0, v1, d0, d1, p0, p1, rfl, rfl, rfl, h0, h1⟩ := trodAll_two hA
    obtain ⟨fu1, h1⟩ := h1
    obtain ⟨c0, c1, y0, y1, m, rfl, rfl, rfl, g0, g1⟩ := open_agg2 Try.underlying25 (by kernel_rfl) (by kernel_rfl) (hval 0 25 v0 rfl rfl) h0
    obtain ⟨x0, rfl, r0⟩ := one_int Try.underlying22 g0
    obtain ⟨A, n, c, gs, rfl, hr, hok, hnc, hcm, hw⟩ := open_recs Pg.zero (cl := Pg.cells) (s := 3) (fun _ => rfl) (by omega) (fun g => g.fine W W.heap.size) Try.underlying23 (by kernel_rfl) (fun fu cs y h hl => pg_cells Try.underlying64 (by kernel_rfl) Try.underlying3 Try.underlying3 Try.underlying35 Try.underlying5 (by kernel_rfl) h hl) g1
    obtain ⟨x1, e1⟩ := okWide_int Try.underlying22 (hval 1 22 v1 rfl rfl)
    subst e1
    obtain ⟨x1', e1', r1⟩ := one_int (v := .int .u32 x1) Try.underlying22 (by simpa [Value.cells] using h1)
    have he1 : x1' = x1 := by injection e1' with _ h; exact h.symm
    subst he1
    exact law_loadByte x0 A n c gs x1' W ⟨hr.1, hr.2, hok⟩ (u32_range r0) (u32_range r1) (by unfold maxLen at hcm; omega)

theorem loadByte_holds : Rows.LoadByteSaid :=
  OpenClaim.holds_of_wide 3 Try.f3 rfl rfl rfl rfl rfl rfl rfl ⟨rfl, rfl, rfl, rfl, rfl⟩ rfl rfl rfl rfl rfl (by kernel_rfl) Try.func3 (by kernel_rfl)
    (of_decide_eq_true (by kernel_rfl)) (by unfold Func.isWrapper; first | (rw [if_pos (by decide +kernel)]; kernel_rfl) | (rw [if_neg (by decide +kernel)]; exact ⟨rfl, rfl⟩))
    (fun os started H enc _ => loadByte_lifted os started H enc)
#print axioms loadByte_holds
end Go.Proofs.Ytgmpcdonmlhohaa
