/- Proved: for every unit, data and marks of bulk at most 1048576 the call ringlaw4.ObjMade returns true and leaves its arguments as they were. The condition: what is read is of bulk at most 1048576. -/
import Derived.Test.YtgmpcdonmlhohaaRows
import Derived.Test.YtgmpcdonmlhohaaBulk
import Derived.Test.YtgmpcdonmlhohaaLawU
import Derived.Test.YtgmpcdonmlhohaaRecs
import Derived.Test.YtgmpcdonmlhohaaObI
namespace Go.Proofs.Ytgmpcdonmlhohaa
open Go.ChangeShapes Go.WideShapes Go.ChangeAt Go.RowKit Go.Joins Go.Deep
set_option linter.unusedVariables false
section
variable {H : Type} {enc : TypeId × Value → H} {P : Program} {w : World} {base : Nat} {held : Bool}
theorem one_string {n : Nat} {t : TypeId} {v : Value} {y : DataW H × List MemPlace} (ht : P.underlying t = some .string) (h : DataW.trod enc P w base (fun _ => true) held n t [v] = some y) : ∃ s : ByteArray, v = .string s ∧ s.size ≤ 9223372036854775807 := by
  obtain ⟨s, e, _, hs⟩ := DataW.trod_string ht h
  simp at e
  exact ⟨s, e, by unfold maxLen at hs; omega⟩
theorem mk_cells {e : TypeId} {f0 f1 : Field} {fuel : Nat} {cs : List Value} {x : DataW H × List MemPlace} (he : P.underlying e = some (.struct #[f0, f1]))
    (hone : oneCellFields P #[f0, f1] = true) (h0 : P.underlying f0.type = some .string) (h1 : P.underlying f1.type = some (.int .i64))
    (h : DataW.trod enc P w base (fun _ => true) held fuel e cs = some x) (hl : cs.length = 2) : ∃ r : Mk, cs = r.cells ∧ r.fine := by
  obtain ⟨n, hf⟩ := struct_fields he hone h
  match cs, hl with
  | [v0, v1], _ =>
    obtain ⟨y0, hy0⟩ := hf 0 f0 v0 rfl rfl
    obtain ⟨y1, hy1⟩ := hf 1 f1 v1 rfl rfl
    obtain ⟨x0, rfl, r0⟩ := one_string h0 hy0
    obtain ⟨x1, rfl, r1⟩ := one_int h1 hy1
    exact ⟨⟨x0, x1⟩, rfl, r0, r1⟩
theorem nd_cells {e : TypeId} {f0 f1 f2 : Field} {fuel : Nat} {cs : List Value} {x : DataW H × List MemPlace} (he : P.underlying e = some (.struct #[f0, f1, f2]))
    (hone : oneCellFields P #[f0, f1, f2] = true) (h0 : P.underlying f0.type = some (.int .i64)) (h1 : P.underlying f1.type = some .string) (h2 : P.underlying f2.type = some (.int .i64))
    (h : DataW.trod enc P w base (fun _ => true) held fuel e cs = some x) (hl : cs.length = 3) : ∃ r : Nd, cs = r.cells ∧ r.fine := by
  obtain ⟨n, hf⟩ := struct_fields he hone h
  match cs, hl with
  | [v0, v1, v2], _ =>
    obtain ⟨y0, hy0⟩ := hf 0 f0 v0 rfl rfl
    obtain ⟨y1, hy1⟩ := hf 1 f1 v1 rfl rfl
    obtain ⟨y2, hy2⟩ := hf 2 f2 v2 rfl rfl
    obtain ⟨x0, rfl, r0⟩ := one_int h0 hy0
    obtain ⟨x1, rfl, r1⟩ := one_string h1 hy1
    obtain ⟨x2, rfl, r2⟩ := one_int h2 hy2
    exact ⟨⟨x0, x1, x2⟩, rfl, r1, r0, r2⟩
theorem bulk_le {t e : TypeId} {fuel n c : Nat} {A : Option Addr} {x : DataW H × List MemPlace} (ht : P.underlying t = some (.slice e)) (h : DataW.trod enc P w base (fun _ => true) held fuel t [.slice A n c] = some x) : n ≤ Rows.uptoBulk x.1 := by
  rcases slice_datum ht h with h0 | ⟨el, sp, e1, h1⟩
  · omega
  · rw [e1]
    have := bulks.slice_le el sp
    omega
end
theorem Try.own_objMade : ownKnob Try.prog.godebug = none := by kernel_rfl
theorem Try.laidOut_objMade : laidOutB Try.prog = true := by kernel_rfl

set_option maxRecDepth 100000 in
theorem objMadeUpto_lifted (os : Os) (started : os.Started) (H : Type) (enc : TypeId × Value → H) (F : Stop.Interp) :
    ReturnsInHanded {} Try.checked os 4 .any ((Rows.OpenSpec.upto Rows.objMadeSpec).pre6 enc Try.prog Try.f4 Rows.objMadeUptoRow.domain false) (((Rows.OpenSpec.upto Rows.objMadeSpec).at F).post enc Try.prog Try.f4 false true false false) := by
  refine law_lifted_cond (C := Try.checked) (s := Rows.OpenSpec.upto Rows.objMadeSpec) (k := Rows.uptoSmall) rfl Try.own_objMade started (by kernel_rfl) Try.func4
    (OpenSpec.witness (enc := enc) (C := Try.checked) (s := Rows.OpenSpec.upto Rows.objMadeSpec) (k := Rows.uptoSmall) rfl false ⟨#[], #[.agg #[.slice none 0 0, .slice none 0 0, .slice none 0 0], .slice none 0 0, .slice none 0 0], []⟩ 8 (by kernel_rfl) (by kernel_rfl) (by kernel_rfl)
      (x := ([.agg [.nil, .nil, .nil], .nil, .nil], [], [])) (by kernel_rfl) rfl (by kernel_rfl))
    Try.laidOut_objMade (by kernel_rfl) rfl ?_ (tb := 4) (by kernel_rfl) Try.underlying4 ?_
  · intro ds h
    match ds, h with
    | [d0, d1, d2], _ => rfl
  · intro W base args ds ps hval0 hA0 hfz hsz0 hkk
    have hval : ∀ (j : Nat) t v, Try.f4.params[j]? = some t → args[j]? = some v → Value.okWide Try.prog W .any base t v := hval0
    have hA : DataW.TrodAll enc Try.prog W 0 (fun _ => true) true Try.f4.params.toList args.toList ds ps := hA0
    rw [Try.params4] at hA hval
    obtain ⟨v0, v1, v2, d0, d1, d2, p0, p1, p2, rfl, rfl, rfl, h0, h1, h2⟩ := trodAll_three hA
    obtain ⟨fu1, h1⟩ := h1
    obtain ⟨fu2, h2⟩ := h2
    obtain ⟨x0, x1, x2, y0, y1, y2, m, rfl, rfl, rfl, g0, g1, g2⟩ := open_agg3 Try.underlying34 (by kernel_rfl) (by kernel_rfl) (hval 0 34 v0 rfl rfl) h0
    obtain ⟨a1, n1', c1', rfl⟩ := okWide_slice Try.underlying35 (hval 1 35 v1 rfl rfl)
    obtain ⟨a2, n2', c2', rfl⟩ := okWide_slice Try.underlying31 (hval 2 31 v2 rfl rfl)
    obtain ⟨A0, n0, c0, ws, rfl, hr0, _, _, _⟩ := open_ri Try.underlying30 Try.underlying22 (by kernel_rfl) g0
    obtain ⟨Am, nm, cm, ms, rfl, hrm, hokm, _, _, _⟩ := open_recs Mk.zero (cl := Mk.cells) (s := 2) (fun _ => rfl) (by omega) Mk.fine Try.underlying31 (by kernel_rfl) (fun fu cs y hy hl => mk_cells Try.underlying67 (by kernel_rfl) Try.underlying9 Try.underlying3 hy hl) g1
    obtain ⟨A3, n3, c3, ds, rfl, hr3, hok3, _, _, _⟩ := open_recs Nd.zero (cl := Nd.cells) (s := 3) (fun _ => rfl) (by omega) Nd.fine Try.underlying32 (by kernel_rfl) (fun fu cs y hy hl => nd_cells Try.underlying79 (by kernel_rfl) Try.underlying3 Try.underlying9 Try.underlying3 hy hl) g2
    have h1' : DataW.trod enc Try.prog W 0 (fun _ => true) true fu1 35 [.slice a1 n1' c1'] = some (d1, p1) := by simpa [Value.cells] using h1
    have h2' : DataW.trod enc Try.prog W 0 (fun _ => true) true fu2 31 [.slice a2 n2' c2'] = some (d2, p2) := by simpa [Value.cells] using h2
    obtain ⟨A1, n1, c1, bs, e1, hr1, _, _, _⟩ := open_ri Try.underlying35 Try.underlying5 (by kernel_rfl) h1'
    obtain ⟨Ak, nk, ck, ks, e2, hrk, hokk, _, _, _⟩ := open_recs Mk.zero (cl := Mk.cells) (s := 2) (fun _ => rfl) (by omega) Mk.fine Try.underlying31 (by kernel_rfl) (fun fu cs y hy hl => mk_cells Try.underlying67 (by kernel_rfl) Try.underlying9 Try.underlying3 hy hl) h2'
    rw [e1] at h1' ⊢
    rw [e2] at h2' ⊢
    have b0 := bulk_le Try.underlying30 g0
    have b1 := bulk_le Try.underlying31 g1
    have b2 := bulk_le Try.underlying32 g2
    have b3 := bulk_le Try.underlying35 h1'
    have b4 := bulk_le Try.underlying31 h2'
    have hk := of_decide_eq_true hkk
    simp only [Rows.uptoBulkAll, Rows.uptoBulk] at hk
    dsimp only at b3 b4
    exact law_objMade A0 Am A3 A1 Ak n0 c0 nm cm n3 c3 n1 c1 nk ck ws bs ms ks ds W hr0.1 ⟨hrm, hokm⟩ ⟨hr3, hok3⟩ hr1.rb ⟨hrk, hokk⟩ (by omega) (by omega) (by omega) (by omega)

theorem objMadeUpto_holds : Rows.ObjMadeUptoSaid :=
  OpenClaim.holds_of_cond 4 Try.f4 rfl rfl rfl rfl rfl rfl rfl ⟨rfl, rfl, rfl, rfl, rfl⟩ rfl rfl rfl rfl rfl (by kernel_rfl) Try.func4 (by kernel_rfl)
    (of_decide_eq_true (by kernel_rfl)) (by unfold Func.isWrapper; first | (rw [if_pos (by decide +kernel)]; kernel_rfl) | (rw [if_neg (by decide +kernel)]; exact ⟨rfl, rfl⟩))
    (fun os started H enc _ F => objMadeUpto_lifted os started H enc F)
#print axioms objMadeUpto_holds
end Go.Proofs.Ytgmpcdonmlhohaa
