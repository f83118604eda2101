/- Proved: for every list of parts and every library the call ringlaw4.BindPulled returns true and leaves its arguments as they were. No condition. -/
import Derived.Test.YtplfdibbnkjckaaRows
import Derived.Test.YtplfdibbnkjckaaLawS
import Derived.Test.YtplfdibbnkjckaaRecs
import Derived.Test.YtplfdibbnkjckaaPuG
namespace Go.Proofs.Ytplfdibbnkjckaa
open Go.ChangeShapes Go.WideShapes Go.ChangeAt Go.RowKit Go.Joins Go.Deep
set_option linter.unusedVariables false
section
variable {H : Type} {enc : TypeId × Value → H} {P : Program} {w : World} {base : Nat} {held : Bool}
theorem bl_string {n : Nat} {t : TypeId} {v : Value} {y : DataW H × List MemPlace} (ht : P.underlying t = some .string) (h : DataW.trod enc P w base (fun _ => true) held n t [v] = some y) : ∃ s : ByteArray, v = .string s ∧ s.size ≤ 9223372036854775807 := by
  obtain ⟨s, e, _, hs⟩ := DataW.trod_string ht h
  simp at e
  exact ⟨s, e, by unfold maxLen at hs; omega⟩
theorem bl_bool {n : Nat} {t : TypeId} {v : Value} {y : DataW H × List MemPlace} (ht : P.underlying t = some .bool) (h : DataW.trod enc P w base (fun _ => true) held n t [v] = some y) : ∃ b : Bool, v = .bool b := by
  obtain ⟨s, e, _⟩ := DataW.trod_bool ht h
  simp at e
  exact ⟨s, e⟩
theorem bl_nm {e : TypeId} {f0 f1 f2 f3 : Field} {fuel : Nat} {cs : List Value} {x : DataW H × List MemPlace} (he : P.underlying e = some (.struct #[f0, f1, f2, f3]))
    (hone : oneCellFields P #[f0, f1, f2, f3] = true) (h0 : P.underlying f0.type = some .string) (h1 : P.underlying f1.type = some (.int .i64)) (h2 : P.underlying f2.type = some (.int .i64)) (h3 : P.underlying f3.type = some .bool)
    (h : DataW.trod enc P w base (fun _ => true) held fuel e cs = some x) (hl : cs.length = 4) : ∃ r : Nm, cs = r.cells ∧ r.fine := by
  obtain ⟨n, hf⟩ := struct_fields he hone h
  match cs, hl with
  | [v0, v1, v2, v3], _ =>
    obtain ⟨y0, hy0⟩ := hf 0 f0 v0 rfl rfl
    obtain ⟨y1, hy1⟩ := hf 1 f1 v1 rfl rfl
    obtain ⟨y2, hy2⟩ := hf 2 f2 v2 rfl rfl
    obtain ⟨y3, hy3⟩ := hf 3 f3 v3 rfl rfl
    obtain ⟨x0, rfl, r0⟩ := bl_string h0 hy0
    obtain ⟨x1, rfl, r1⟩ := one_int h1 hy1
    obtain ⟨x2, rfl, r2⟩ := one_int h2 hy2
    obtain ⟨x3, rfl⟩ := bl_bool h3 hy3
    exact ⟨⟨x0, x1, x2, x3⟩, rfl, r0, r1, r2⟩
theorem bl_nd {e : TypeId} {f0 f1 f2 : Field} {fuel : Nat} {cs : List Value} {x : DataW H × List MemPlace} (he : P.underlying e = some (.struct #[f0, f1, f2]))
    (hone : oneCellFields P #[f0, f1, f2] = true) (h0 : P.underlying f0.type = some (.int .i64)) (h1 : P.underlying f1.type = some .string) (h2 : P.underlying f2.type = some (.int .i64))
    (h : DataW.trod enc P w base (fun _ => true) held fuel e cs = some x) (hl : cs.length = 3) : ∃ r : Nd, cs = r.cells ∧ r.fine := by
  obtain ⟨n, hf⟩ := struct_fields he hone h
  match cs, hl with
  | [v0, v1, v2], _ =>
    obtain ⟨y0, hy0⟩ := hf 0 f0 v0 rfl rfl
    obtain ⟨y1, hy1⟩ := hf 1 f1 v1 rfl rfl
    obtain ⟨y2, hy2⟩ := hf 2 f2 v2 rfl rfl
    obtain ⟨x0, rfl, r0⟩ := one_int h0 hy0
    obtain ⟨x1, rfl, r1⟩ := bl_string h1 hy1
    obtain ⟨x2, rfl, r2⟩ := one_int h2 hy2
    exact ⟨⟨x0, x1, x2⟩, rfl, r1, r0, r2⟩
theorem u32_range {x : Int} (h : (Lit.int .u32 x).wf = true) : 0 ≤ x ∧ x < 4294967296 := by
  simp [Lit.wf, IntKind.min, IntKind.max, IntKind.signed, IntKind.bits] at h; omega
theorem bl_fo {enc : TypeId × Value → H} {w : World} {base : Nat} {held : Bool} {fuel : Nat} {cs : List Value} {x : DataW H × List MemPlace} (h : DataW.trod enc Try.prog w base (fun _ => true) held fuel 37 cs = some x) (hl : cs.length = 4) : ∃ f : Fo, cs = f.cells ∧ f.Full w w.heap.size := by
  obtain ⟨n, hf⟩ := struct_fields Try.underlying37 (by kernel_rfl) h
  match cs, hl with
  | [v0, v1, v2, v3], _ =>
    obtain ⟨y0, g0⟩ := hf 0 _ v0 rfl rfl
    obtain ⟨y1, g1⟩ := hf 1 _ v1 rfl rfl
    obtain ⟨y2, g2⟩ := hf 2 _ v2 rfl rfl
    obtain ⟨y3, g3⟩ := hf 3 _ v3 rfl rfl
    obtain ⟨A0, n0, c0, ws, rfl, hr0, hn0, hc0, _⟩ := open_ri Try.underlying32 Try.underlying56 (by kernel_rfl) g0
    obtain ⟨A1, n1, c1, bs, rfl, hr1, hn1, hc1, _⟩ := open_ri Try.underlying33 Try.underlying5 (by kernel_rfl) g1
    obtain ⟨A2, n2, c2, ns, rfl, hr2, hok2, hn2, hc2, _⟩ := open_recs Nm.zero (cl := Nm.cells) (s := 4) (fun _ => rfl) (by omega) Nm.fine Try.underlying34 (by kernel_rfl) (fun fu cs y hy hl => bl_nm Try.underlying39 (by kernel_rfl) Try.underlying9 Try.underlying3 Try.underlying3 Try.underlying4 hy hl) g2
    obtain ⟨A3, n3, c3, ds, rfl, hr3, hok3, hn3, hc3, _⟩ := open_recs Nd.zero (cl := Nd.cells) (s := 3) (fun _ => rfl) (by omega) Nd.fine Try.underlying35 (by kernel_rfl) (fun fu cs y hy hl => bl_nd Try.underlying41 (by kernel_rfl) Try.underlying3 Try.underlying9 Try.underlying3 hy hl) g3
    unfold maxLen at hc0 hc1 hc2 hc3
    exact ⟨⟨⟨A0, n0, c0, A1, n1, c1, A2, n2, c2, A3, n3, c3, ns, ds⟩, ws, bs⟩, rfl, ⟨⟨⟨hr2, hok2⟩, ⟨hr3, hok3⟩, by show n0 ≤ _; omega, by show n1 ≤ _; omega, by show n2 ≤ _; omega, by show n3 ≤ _; omega⟩, hn2, by show c2 ≤ _; omega⟩, hr0.1, hr1.rb⟩
end
theorem Try.own_bindPulled : ownKnob Try.prog.godebug = none := by kernel_rfl
theorem Try.laidOut_bindPulled : laidOutB Try.prog = true := by kernel_rfl

set_option maxRecDepth 100000 in
theorem bindPulled_lifted (os : Os) (started : os.Started) (H : Type) (enc : TypeId × Value → H) :
    ReturnsInHanded {} Try.checked os 3 .any (Rows.bindPulledSpec.pre6 enc Try.prog Try.f3 Rows.bindPulledRow.domain false) (Rows.bindPulledSpec.post enc Try.prog Try.f3 false true false false) := by
  refine law_lifted_shaped (C := Try.checked) Try.own_bindPulled started (by kernel_rfl) Try.func3
    (ChangeSpec.witness6 (enc := enc) (C := Try.checked) false ⟨#[], #[.slice none 0 0, .slice none 0 0], []⟩ 8 (by kernel_rfl) (by kernel_rfl) (by kernel_rfl) (by kernel_rfl))
    Try.laidOut_bindPulled (by kernel_rfl) rfl ?_ (tb := 4) (by kernel_rfl) Try.underlying4 ?_
  · intro ds h
    match ds, h with
    | [d0, d1], _ => rfl
  · intro W base args ds ps hval0 hA0 hfz hsz0 hsh
    have hval : ∀ (j : Nat) t v, Try.f3.params[j]? = some t → args[j]? = some v → Value.okWide Try.prog W .any base t v := hval0
    have hA : DataW.TrodAll enc Try.prog W 0 (fun _ => true) true Try.f3.params.toList args.toList ds ps := hA0
    have hsz : (DataW.weightsEach Try.prog Try.f3.params.toList ds).all (· ≤ reachBytes) = true := hsz0
    rw [Try.params3] at hA hval hsz
    obtain ⟨v0, v1, d0, d1, p0, p1, rfl, rfl, rfl, h0, h1⟩ := trodAll_two hA
    obtain ⟨fu0, h0⟩ := h0
    obtain ⟨aa0, nn0, cc0, rfl⟩ := okWide_slice Try.underlying22 (hval 0 22 v0 rfl rfl)
    obtain ⟨A0, n0, c0, fs0, e0, hr0, hok0, hnc0, hcm0, hwt0⟩ := open_recs Fo.zero (cl := Fo.cells) (s := 4) (fun _ => rfl) (by omega) (fun f => f.Full W W.heap.size) Try.underlying22 (by kernel_rfl) (fun fu cs y hy hl => bl_fo hy hl) (v := .slice aa0 nn0 cc0) (by simpa [Value.cells] using h0)
    rw [e0]
    have hw0 : ∀ m ∈ (d0 : DataW H).weights Try.prog 22, m ≤ reachBytes := fun m hm => by
      have := List.all_eq_true.1 hsz m (by simp only [DataW.weightsEach, List.append_nil]; exact List.mem_append_left _ hm)
      simpa using this
    have hby0 : Try.prog.bytesOf 37 = 96 := by kernel_rfl
    have hb0 := hwt0 reachBytes hw0
    rw [hby0] at hb0
    unfold reachBytes at hb0
    obtain ⟨fu1, h1⟩ := h1
    obtain ⟨aa1, nn1, cc1, rfl⟩ := okWide_slice Try.underlying22 (hval 1 22 v1 rfl rfl)
    obtain ⟨A1, n1, c1, fs1, e1, hr1, hok1, hnc1, hcm1, hwt1⟩ := open_recs Fo.zero (cl := Fo.cells) (s := 4) (fun _ => rfl) (by omega) (fun f => f.Full W W.heap.size) Try.underlying22 (by kernel_rfl) (fun fu cs y hy hl => bl_fo hy hl) (v := .slice aa1 nn1 cc1) (by simpa [Value.cells] using h1)
    rw [e1]
    unfold maxLen at hcm0 hcm1
    exact law_bindPulled A0 A1 n0 c0 n1 c1 fs0 fs1 W ⟨hr0, hok0⟩ ⟨hr1, hok1⟩ (by omega) (by omega) hnc1 (varOk_of hsh)

theorem bindPulled_holds : Rows.BindPulledSaid :=
  OpenClaim.holds_of_wide 3 Try.f3 rfl rfl rfl rfl rfl rfl rfl ⟨rfl, rfl, rfl, rfl, rfl⟩ rfl rfl rfl rfl rfl (by kernel_rfl) Try.func3 (by kernel_rfl)
    (of_decide_eq_true (by kernel_rfl)) (by unfold Func.isWrapper; first | (rw [if_pos (by decide +kernel)]; kernel_rfl) | (rw [if_neg (by decide +kernel)]; exact ⟨rfl, rfl⟩))
    (fun os started H enc _ => bindPulled_lifted os started H enc)
#print axioms bindPulled_holds
end Go.Proofs.Ytplfdibbnkjckaa
