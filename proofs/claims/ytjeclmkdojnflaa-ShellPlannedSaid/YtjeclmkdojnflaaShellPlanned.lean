/- Proved: for every list of commands, every list of open descriptors, every sign and every status the call ringlaw4.ShellPlanned returns true and leaves its arguments as they were. No condition. -/
import Derived.Test.YtjeclmkdojnflaaRows
import Derived.Test.YtjeclmkdojnflaaLaw
import Derived.Test.YtjeclmkdojnflaaRecs
import Derived.Test.YtjeclmkdojnflaaPlL
namespace Go.Proofs.Ytjeclmkdojnflaa
open Go.ChangeShapes Go.WideShapes Go.ChangeAt Go.RowKit Go.Joins Go.Deep
set_option linter.unusedVariables false
section
variable {H : Type} {enc : TypeId × Value → H} {P : Program} {w : World} {base : Nat} {held : Bool}
theorem sp_string {n : Nat} {t : TypeId} {v : Value} {y : DataW H × List MemPlace} (ht : P.underlying t = some .string) (h : DataW.trod enc P w base (fun _ => true) held n t [v] = some y) : ∃ s : ByteArray, v = .string s := by
  obtain ⟨s, e, _, hs⟩ := DataW.trod_string ht h
  simp at e
  exact ⟨s, e⟩
theorem sp_bool {n : Nat} {t : TypeId} {v : Value} {y : DataW H × List MemPlace} (ht : P.underlying t = some .bool) (h : DataW.trod enc P w base (fun _ => true) held n t [v] = some y) : ∃ b : Bool, v = .bool b := by
  obtain ⟨s, e, _⟩ := DataW.trod_bool ht h
  simp at e
  exact ⟨s, e⟩
theorem flat_one : ∀ ts : List ByteArray, (ts.flatMap fun b => [Value.string b]) = ts.map Value.string
  | [] => rfl
  | a :: l => by rw [List.flatMap_cons, flat_one l]; rfl
theorem sp_cells {fuel : Nat} {cs : List Value} {x : DataW H × List MemPlace} (h : DataW.trod enc Try.prog w base (fun _ => true) held fuel 49 cs = some x) (hl : cs.length = 4) : ∃ r : Sp, cs = r.cells ∧ r.Fine w w.heap.size := by
  obtain ⟨n, hf⟩ := struct_fields Try.underlying49 (by kernel_rfl) h
  match cs, hl with
  | [v0, v1, v2, v3], _ =>
    obtain ⟨y0, g0⟩ := hf 0 _ v0 rfl rfl
    obtain ⟨y1, g1⟩ := hf 1 _ v1 rfl rfl
    obtain ⟨y2, g2⟩ := hf 2 _ v2 rfl rfl
    obtain ⟨y3, g3⟩ := hf 3 _ v3 rfl rfl
    obtain ⟨A0, n0, c0, ts, rfl, hr0, _, hn0, hc0, _⟩ := open_recs ByteArray.empty (cl := fun b => [Value.string b]) (s := 1) (fun _ => rfl) (by omega) (fun _ => True) Try.underlying47 (by kernel_rfl) (fun fu cs y hy hl => by
      match cs, hl with
      | [v], _ =>
        obtain ⟨b, rfl⟩ := sp_string Try.underlying9 hy
        exact ⟨b, rfl, trivial⟩) g0
    obtain ⟨s1, rfl⟩ := sp_string Try.underlying9 g1
    obtain ⟨s2, rfl⟩ := sp_string Try.underlying9 g2
    obtain ⟨b3, rfl⟩ := sp_bool Try.underlying4 g3
    have e : (ts.flatMap fun b => [Value.string b]) = ts.map Value.string := flat_one ts
    have hr := hr0.1
    rw [e] at hr
    exact ⟨⟨A0, n0, c0, ts, s1, s2, b3⟩, rfl, hr, hn0⟩
end
theorem Try.own_shellPlanned : ownKnob Try.prog.godebug = none := by kernel_rfl
theorem Try.laidOut_shellPlanned : laidOutB Try.prog = true := by kernel_rfl

set_option maxRecDepth 100000 in
theorem shellPlanned_lifted (os : Os) (started : os.Started) (H : Type) (enc : TypeId × Value → H) :
    ReturnsInHanded {} Try.checked os 3 .any (Rows.shellPlannedSpec.pre6 enc Try.prog Try.f3 Rows.shellPlannedRow.domain false) (Rows.shellPlannedSpec.post enc Try.prog Try.f3 false true false false) := by
  refine law_lifted (C := Try.checked) Try.own_shellPlanned started (by kernel_rfl) Try.func3
    (ChangeSpec.witness6 (enc := enc) (C := Try.checked) false ⟨#[], #[.slice none 0 0, .slice none 0 0, .string ByteArray.empty, .int .i64 0], []⟩ 8 (by kernel_rfl) (by kernel_rfl) (by kernel_rfl) (by kernel_rfl))
    Try.laidOut_shellPlanned (by kernel_rfl) rfl ?_ (tb := 4) (by kernel_rfl) Try.underlying4 ?_
  · intro ds h
    match ds, h with
    | [d0, d1, d2, d3], _ => rfl
  · intro W base args ds ps hval0 hA0 hfz hsz0
    have hval : ∀ (j : Nat) t v, Try.f3.params[j]? = some t → args[j]? = some v → Value.okWide Try.prog W .any base t v := hval0
    have hA : DataW.TrodAll enc Try.prog W 0 (fun _ => true) true Try.f3.params.toList args.toList ds ps := hA0
    have hsz : (DataW.weightsEach Try.prog Try.f3.params.toList ds).all (· ≤ reachBytes) = true := hsz0
    rw [Try.params3] at hA hval hsz
    obtain ⟨v0, v1, v2, v3, d0, d1, d2, d3, p0, p1, p2, p3, rfl, rfl, rfl, h0, h1, h2, h3⟩ := trodAll_four hA
    obtain ⟨fu0, h0⟩ := h0
    obtain ⟨aa0, nn0, cc0, rfl⟩ := okWide_slice Try.underlying22 (hval 0 22 v0 rfl rfl)
    obtain ⟨A0, n0, c0, rs, e0, hr0, hok0, hnc0, hcm0, _⟩ := open_recs Sp.zero (cl := Sp.cells) (s := 4) (fun _ => rfl) (by omega) (fun o => o.Fine W W.heap.size) Try.underlying22 (by kernel_rfl) (fun fu cs y hy hl => sp_cells hy hl) (v := .slice aa0 nn0 cc0) (by simpa [Value.cells] using h0)
    rw [e0]
    obtain ⟨fu1, h1⟩ := h1
    obtain ⟨aa1, nn1, cc1, rfl⟩ := okWide_slice Try.underlying23 (hval 1 23 v1 rfl rfl)
    have hw1 : ∀ m ∈ (d1 : DataW H).weights Try.prog 23, m ≤ reachBytes := fun m hm => by
      have := List.all_eq_true.1 hsz m (by simp only [DataW.weightsEach, List.append_nil]; exact List.mem_append_right _ (List.mem_append_left _ hm))
      simpa using this
    obtain ⟨A1, n1, c1, os, e1, hr1, hn1, hc1, hwt1⟩ := open_ri Try.underlying23 Try.underlying3 (by kernel_rfl) (v := .slice aa1 nn1 cc1) (by simpa [Value.cells] using h1)
    rw [e1]
    have hby1 : Try.prog.bytesOf 3 = 8 := by kernel_rfl
    have hb1 := hwt1 reachBytes hw1
    rw [hby1] at hb1
    unfold reachBytes at hb1
    obtain ⟨fu2, h2⟩ := h2
    obtain ⟨op, rfl⟩ : ∃ s : ByteArray, v2 = .string s := okWide_string Try.underlying9 (hval 2 9 v2 rfl rfl)
    obtain ⟨fu3, h3⟩ := h3
    obtain ⟨x3, rfl⟩ := okWide_int Try.underlying3 (hval 3 3 v3 rfl rfl)
    obtain ⟨x3', e3', r3⟩ := one_int (v := .int .i64 x3) Try.underlying3 (by simpa [Value.cells] using h3)
    have he3 : x3' = x3 := by injection e3' with _ h; exact h.symm
    subst he3
    exact law_shellPlanned A0 n0 c0 rs A1 n1 c1 os op x3' W ⟨hr0, hok0⟩ hr1 (by omega)

theorem shellPlanned_holds : Rows.ShellPlannedSaid :=
  OpenClaim.holds_of_wide 3 Try.f3 rfl rfl rfl rfl rfl rfl rfl ⟨rfl, rfl, rfl, rfl, rfl⟩ rfl rfl rfl rfl rfl (by kernel_rfl) Try.func3 (by kernel_rfl)
    (of_decide_eq_true (by kernel_rfl)) (by unfold Func.isWrapper; first | (rw [if_pos (by decide +kernel)]; kernel_rfl) | (rw [if_neg (by decide +kernel)]; exact ⟨rfl, rfl⟩))
    (fun os started H enc _ => shellPlanned_lifted os started H enc)
#print axioms shellPlanned_holds
end Go.Proofs.Ytjeclmkdojnflaa
