/- Proved: for every two counters and every list of counters the call ringlaw1.WrapSays returns true and leaves its arguments as they were. No condition. -/
import Derived.Test.YtjcbnanajelpjaaRows
import Derived.Test.YtjcbnanajelpjaaWrB
namespace Go.Proofs.Ytjcbnanajelpjaa
open Go.ChangeShapes Go.WideShapes Go.ChangeAt Go.RowKit Go.Joins Go.Deep
theorem Try.own3 : ownKnob Try.prog.godebug = none := by kernel_rfl
theorem Try.laidOut3 : laidOutB Try.prog = true := by kernel_rfl
theorem farI_big : decide (0 < farI 4294967295 0) = true := by decide
set_option maxRecDepth 100000 in
theorem law_wrapSays (a b : Int) (A : Option Addr) (n c : Nat) (xs : List Int) (w : World) (ha : U32 a) (hb : U32 b) (h : RI .u32 w w.heap.size A n xs) (hn : n ≤ 9223372036854775807) :
    Calls Try.prog 3 #[.int .u32 a, .int .u32 b, .slice A n c] w fun e w' => e = .returned (.bool true) ∧ Below w.heap.size w w' := by
  go_enter Try.func3, Try.ntmps3
  go_wp2_with fail
  refine (last11 A n c xs _ h hn).mono ?_
  rintro e w1 ⟨rfl, hb1⟩
  go_wp2_with fail
  refine (last12 A n c xs _ ((h.below' hb1 (Nat.le_refl _)).more hb1.size) hn).mono ?_
  rintro e w2 ⟨rfl, hb2⟩
  have hbw : Below w.heap.size w w2 := hb1.trans (hb2.mono hb1.size)
  generalize lastV xs = p at *
  have hbig := farI_big
  have hu : U32 4294967295 := ⟨by decide, by decide⟩
  have hz : U32 0 := ⟨by decide, by decide⟩
  go_wp2_with (first | (go_at_call 13; refine (refFar_any a b _ ha hb).mono ?_; rintro e w3 ⟨rfl, rfl⟩) | (go_at_call 14; refine (far_any a b _ ha hb).mono ?_; rintro e w3 ⟨rfl, rfl⟩) | (go_at_call 15; refine (less_any a b _ ha hb).mono ?_; rintro e w3 ⟨rfl, rfl⟩) | (go_at_call 15; refine (less_any 4294967295 0 _ hu hz).mono ?_; rintro e w3 ⟨rfl, rfl⟩; rw [hbig]))
  go_ret
  exact ⟨rfl, hbw⟩

set_option maxRecDepth 100000 in
theorem wrapSays_lifted (os : Os) (started : os.Started) (H : Type) (enc : TypeId × Value → H) :
    ReturnsInHanded {} Try.checked os 3 .any (Rows.wrapSaysSpec.pre6 enc Try.prog Try.f3 Rows.wrapSaysRow.domain false) (Rows.wrapSaysSpec.post enc Try.prog Try.f3 false true false false) := by
  refine law_lifted (C := Try.checked) Try.own3 started (by kernel_rfl) Try.func3
    (ChangeSpec.witness6 (enc := enc) (C := Try.checked) false ⟨#[], #[.int .u32 0, .int .u32 0, .slice none 0 0], []⟩ 8 (by kernel_rfl) (by kernel_rfl) (by kernel_rfl) (by kernel_rfl))
    Try.laidOut3 (by kernel_rfl) rfl ?_ (tb := 4) (by kernel_rfl) Try.underlying4 ?_
  · intro ds h
    match ds, h with
    | [d0, d1, d2], _ => rfl
  · intro W base args ds ps hval0 hA0 hfz hsz0
    have hval : ∀ (j : Nat) t v, Try.f3.params[j]? = some t → args[j]? = some v → Value.okWide Try.prog W .any base t v := hval0
    have hA : DataW.TrodAll enc Try.prog W 0 (fun _ => true) true Try.f3.params.toList args.toList ds ps := hA0
    rw [Try.params3] at hA hval
    obtain ⟨v0, v1, v2, d0, d1, d2, p0, p1, p2, rfl, rfl, rfl, ⟨f0, h0⟩, ⟨f1, h1⟩, ⟨f2, h2⟩⟩ := trodAll_three hA
    obtain ⟨a, rfl⟩ := okWide_int Try.underlying22 (hval 0 22 v0 rfl rfl)
    obtain ⟨b, rfl⟩ := okWide_int Try.underlying22 (hval 1 22 v1 rfl rfl)
    obtain ⟨a0, n0, c0, rfl⟩ := okWide_slice Try.underlying23 (hval 2 23 v2 rfl rfl)
    obtain ⟨x0, e0, _, wf0⟩ := DataW.trod_int Try.underlying22 h0
    obtain ⟨x1, e1, _, wf1⟩ := DataW.trod_int Try.underlying22 h1
    obtain ⟨A, n, c, xs, hv, hr, hnc, hcm, hw⟩ := open_ri Try.underlying23 Try.underlying22 (by kernel_rfl) (by simpa [Value.cells] using h2)
    rw [hv]
    simp [Value.cells] at e0 e1
    subst e0 e1
    exact law_wrapSays _ _ A n c xs W (u32_range wf0) (u32_range wf1) hr (by unfold maxLen at hcm; omega)

theorem wrapSays_holds : Rows.WrapSaysSaid :=
  OpenClaim.holds_of_wide 3 Try.f3 rfl rfl rfl rfl rfl rfl rfl ⟨rfl, rfl, rfl, rfl, rfl⟩ rfl rfl rfl rfl rfl (by kernel_rfl) Try.func3 (by kernel_rfl)
    (of_decide_eq_true (by kernel_rfl)) (by unfold Func.isWrapper; first | (rw [if_pos (by decide +kernel)]; kernel_rfl) | (rw [if_neg (by decide +kernel)]; exact ⟨rfl, rfl⟩))
    (fun os started H enc _ => wrapSays_lifted os started H enc)
#print axioms wrapSays_holds
end Go.Proofs.Ytjcbnanajelpjaa
