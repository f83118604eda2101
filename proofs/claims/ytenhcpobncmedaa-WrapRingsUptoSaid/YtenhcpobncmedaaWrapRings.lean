/- Proved: for every size, first counter, records and counter of bulk at most 1048576 the call ringlaw1.WrapRings returns true and leaves its arguments as they were. The condition: what is read is of bulk at most 1048576. -/
import Derived.Test.YtenhcpobncmedaaRows
import Derived.Test.YtenhcpobncmedaaBulk
import Derived.Test.YtenhcpobncmedaaLawU
import Derived.Test.YtenhcpobncmedaaRecs
import Derived.Test.YtenhcpobncmedaaWrF
namespace Go.Proofs.Ytenhcpobncmedaa
open Go.ChangeShapes Go.WideShapes Go.ChangeAt Go.RowKit Go.Joins Go.Deep
set_option linter.unusedVariables false
section
variable {H : Type} {enc : TypeId × Value → H} {P : Program} {w : World} {base : Nat} {held : Bool}
theorem bulk_le {t e : TypeId} {fuel n c : Nat} {A : Option Addr} {x : DataW H × List MemPlace} (ht : P.underlying t = some (.slice e)) (h : DataW.trod enc P w base (fun _ => true) held fuel t [.slice A n c] = some x) : n ≤ Rows.uptoBulk x.1 := by
  rcases slice_datum ht h with h0 | ⟨el, sp, e1, h1⟩
  · omega
  · rw [e1]
    have := bulks.slice_le el sp
    omega
theorem u32_any {t : TypeId} {v : Value} {d : DataW H} {p : List MemPlace} (ht : P.underlying t = some (.int .u32)) {r : Reach} {b0 : Nat} (hv : Value.okWide P w r b0 t v) (h : DataW.Trod enc P w base (fun _ => true) held t v d p) : ∃ a, v = .int .u32 a ∧ U32 a := by
  obtain ⟨a, rfl⟩ := okWide_int ht hv
  obtain ⟨fu, h⟩ := h
  obtain ⟨a', e, hr⟩ := one_int (v := .int .u32 a) ht (by simpa [Value.cells] using h)
  have he : a' = a := by injection e with _ h; exact h.symm
  subst he
  refine ⟨a', rfl, ?_⟩
  unfold U32
  exact u32_range hr
theorem open_rrb {t e i : TypeId} {fuel : Nat} {v : Value} {x : DataW H × List MemPlace} (ht : P.underlying t = some (.slice e)) (he : P.underlying e = some (.slice i)) (hi : P.underlying i = some (.int .u8)) (hc : P.cellsOf e = 1) (hci : P.cellsOf i = 1)
    (h : DataW.trod enc P w base (fun _ => true) held fuel t [v] = some x) :
    ∃ A n c ps, v = .slice A n c ∧ RRb w w.heap.size A n ps := by
  obtain ⟨A, n, c, ps, h1, h2, h3, h4, h5, h6⟩ := open_recs Rb.zero (cl := fun r => [r.val]) (s := 1) (fun _ => rfl) (by omega) (fun p => p.fine w w.heap.size) ht hc (fun fu cs y hy hl => by
    match cs, hl with
    | [u], _ =>
      obtain ⟨A, m, c, xs, rfl, hr, hmc, hcm, _⟩ := open_ri he hi hci hy
      exact ⟨⟨A, m, c, xs⟩, rfl, hr.rb, by unfold maxLen at hcm; dsimp only; omega⟩) h
  have e2 : ps.flatMap (fun r : Rb => [r.val]) = ps.map Rb.val := by
    clear h1 h2 h3
    induction ps with
    | nil => rfl
    | cons p ps ih => simp; exact ih
  have h7 := h2.1
  rw [e2] at h7
  exact ⟨A, n, c, ps, h1, h7, h3⟩
end
theorem Try.own_wrapRings : ownKnob Try.prog.godebug = none := by kernel_rfl
theorem Try.laidOut_wrapRings : laidOutB Try.prog = true := by kernel_rfl

set_option maxRecDepth 100000 in
theorem wrapRingsUpto_lifted (os : Os) (started : os.Started) (H : Type) (enc : TypeId × Value → H) (F : Stop.Interp) :
    ReturnsInHanded {} Try.checked os 3 .any ((Rows.OpenSpec.upto Rows.wrapRingsSpec).pre6 enc Try.prog Try.f3 Rows.wrapRingsUptoRow.domain false) (((Rows.OpenSpec.upto Rows.wrapRingsSpec).at F).post enc Try.prog Try.f3 false true false false) := by
  refine law_lifted_cond (C := Try.checked) (s := Rows.OpenSpec.upto Rows.wrapRingsSpec) (k := Rows.uptoSmall) rfl Try.own_wrapRings started (by kernel_rfl) Try.func3
    (OpenSpec.witness (enc := enc) (C := Try.checked) (s := Rows.OpenSpec.upto Rows.wrapRingsSpec) (k := Rows.uptoSmall) rfl false ⟨#[], #[.int .i64 0, .int .u32 0, .slice none 0 0, .int .u32 0], []⟩ 8 (by kernel_rfl) (by kernel_rfl) (by kernel_rfl)
      (x := ([.lit (.int .i64 0), .lit (.int .u32 0), .nil, .lit (.int .u32 0)], [], [])) (by kernel_rfl) rfl (by kernel_rfl))
    Try.laidOut_wrapRings (by kernel_rfl) rfl ?_ (tb := 4) (by kernel_rfl) Try.underlying4 ?_
  · intro ds h
    match ds, h with
    | [d0, d1, d2, d3], _ => rfl
  · intro W base args ds ps hval0 hA0 hfz hsz0 hkk
    have hval : ∀ (j : Nat) t v, Try.f3.params[j]? = some t → args[j]? = some v → Value.okWide Try.prog W .any base t v := hval0
    have hA : DataW.TrodAll enc Try.prog W 0 (fun _ => true) true Try.f3.params.toList args.toList ds ps := hA0
    rw [Try.params3] at hA hval
    obtain ⟨v0, v1, v2, v3, d0, d1, d2, d3, p0, p1, p2, p3, rfl, rfl, rfl, h0, h1, h2, h3⟩ := trodAll_four hA
    obtain ⟨x0, rfl⟩ := okWide_int Try.underlying3 (hval 0 3 v0 rfl rfl)
    obtain ⟨x1, rfl, r1⟩ := u32_any Try.underlying22 (hval 1 22 v1 rfl rfl) h1
    obtain ⟨x3, rfl, r3⟩ := u32_any Try.underlying22 (hval 3 22 v3 rfl rfl) h3
    obtain ⟨a2, n2', c2', rfl⟩ := okWide_slice Try.underlying23 (hval 2 23 v2 rfl rfl)
    obtain ⟨fu2, h2⟩ := h2
    have h2' : DataW.trod enc Try.prog W 0 (fun _ => true) true fu2 23 [.slice a2 n2' c2'] = some (d2, p2) := by simpa [Value.cells] using h2
    obtain ⟨A, n, c, ps, e2, hr⟩ := open_rrb Try.underlying23 Try.underlying30 Try.underlying5 (by kernel_rfl) (by kernel_rfl) h2'
    rw [e2] at h2' ⊢
    have b2 := bulk_le Try.underlying23 h2'
    have hk := of_decide_eq_true hkk
    simp only [Rows.uptoBulkAll] at hk
    dsimp only at b2
    exact law_wrapRings x0 x1 A n c ps x3 W r1 r3 hr (by omega)

theorem wrapRingsUpto_holds : Rows.WrapRingsUptoSaid :=
  OpenClaim.holds_of_cond 3 Try.f3 rfl rfl rfl rfl rfl rfl rfl ⟨rfl, rfl, rfl, rfl, rfl⟩ rfl rfl rfl rfl rfl (by kernel_rfl) Try.func3 (by kernel_rfl)
    (of_decide_eq_true (by kernel_rfl)) (by unfold Func.isWrapper; first | (rw [if_pos (by decide +kernel)]; kernel_rfl) | (rw [if_neg (by decide +kernel)]; exact ⟨rfl, rfl⟩))
    (fun os started H enc _ F => wrapRingsUpto_lifted os started H enc F)
#print axioms wrapRingsUpto_holds
end Go.Proofs.Ytenhcpobncmedaa
