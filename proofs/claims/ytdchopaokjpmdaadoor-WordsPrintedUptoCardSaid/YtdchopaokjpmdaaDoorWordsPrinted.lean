/- Proved: the card of the second form: for every text and every token of bulk at most 1048576 the call ringlaw4.WordsPrinted returns true and leaves its arguments as they were. The conditions: what is read is of bulk at most 1048576; the listed package variables hold what the program's text lays. -/
import Derived.Test.YtdchopaokjpmdaaDoorCards
import Derived.Test.YtdchopaokjpmdaaDoorTie
import Derived.Test.YtdchopaokjpmdaaDoorBulk
import Derived.Test.YtdchopaokjpmdaaDoorLawR
import Derived.Test.YtdchopaokjpmdaaDoorPtE
import Derived.SevenTiedAt
namespace Go.Proofs.YtdchopaokjpmdaaDoor
open Go.ChangeShapes Go.WideShapes Go.ChangeAt Go.RowKit Go.Joins Go.Deep
set_option linter.unusedVariables false
section
variable {H : Type} {enc : TypeId × Value → H} {w : World} {base : Nat} {held : Bool}
theorem pt_open (fu : Nat) (cs : List Value) (y : DataW H × List MemPlace) (h : DataW.trod enc Tryd.prog w base (fun _ => true) held fu 34 cs = some y) (hl : cs.length = 3) : ∃ p : Pt, cs = p.cells ∧ p.text.size + 1 ≤ Rows.uptoBulk y.1 := by
  obtain ⟨xs, n, _, rfl, _, hxl, hf⟩ := DataW.trod_struct Tryd.underlying34 h
  match cs, hl with
  | [v0, v1, v2], _ =>
    have h0 : DataW.trod enc Tryd.prog w base (fun _ => true) held n 9 (([v0, v1, v2].drop 0).take (Tryd.prog.cellsOf 9)) = xs[0]? := hf 0 _ rfl
    have h1 : DataW.trod enc Tryd.prog w base (fun _ => true) held n 4 (([v0, v1, v2].drop 1).take (Tryd.prog.cellsOf 4)) = xs[1]? := hf 1 _ rfl
    have h2 : DataW.trod enc Tryd.prog w base (fun _ => true) held n 4 (([v0, v1, v2].drop 2).take (Tryd.prog.cellsOf 4)) = xs[2]? := hf 2 _ rfl
    rw [show Tryd.prog.cellsOf 9 = 1 by kernel_rfl] at h0
    rw [show Tryd.prog.cellsOf 4 = 1 by kernel_rfl] at h1 h2
    match xs, hxl with
    | [x0, x1, x2], _ =>
      obtain ⟨s, e0, ex0, _⟩ := DataW.trod_string Tryd.underlying9 (show DataW.trod enc Tryd.prog w base _ held n 9 _ = some x0 from h0)
      obtain ⟨b1, e1, _⟩ := DataW.trod_bool Tryd.underlying4 (show DataW.trod enc Tryd.prog w base _ held n 4 _ = some x1 from h1)
      obtain ⟨b2, e2, _⟩ := DataW.trod_bool Tryd.underlying4 (show DataW.trod enc Tryd.prog w base _ held n 4 _ = some x2 from h2)
      simp at e0 e1 e2
      subst e0; subst e1; subst e2
      refine ⟨⟨s, b1, b2⟩, rfl, ?_⟩
      subst ex0
      have := bulks.part_le (H := H) (d := .lit (.string s.data.toList)) (l := ([((.lit (.string s.data.toList) : DataW H), ([] : List MemPlace)), x1, x2]).map (·.1)) (by simp)
      rw [bulks.string_eq] at this
      have h3 : s.data.toList.length = s.size := by simp
      simp only [Rows.uptoBulk]
      omega
end
theorem Tryd.own_wordsPrinted : ownKnob Tryd.prog.godebug = none := by kernel_rfl
theorem Tryd.laidOut_wordsPrinted : laidOutB Tryd.prog = true := by kernel_rfl
theorem reads_wordsPrinted (os : Os) {H : Type} (enc : TypeId × Value → H) : ∃ places, DataW.whole enc Tryd.prog ((World.laidAll Tryd.prog os Rows.wordsPrintedUptoRow.laid).forCall (fun _ _ => 0) ⟨#[], #[.string ⟨#[]⟩, .agg #[.string ⟨#[]⟩, .slice none 0 0, .int .i64 0]], []⟩).memory Tryd.f3.params.toList Rows.wordsPrintedSpec.vars false #[Value.string ⟨#[]⟩, .agg #[.string ⟨#[]⟩, .slice none 0 0, .int .i64 0]].toList 8 = some ([.lit (.string []), .agg [.lit (.string []), .nil, .lit (.int .i64 0)]], [], places) :=
  ⟨[], by kernel_rfl⟩
set_option maxRecDepth 100000 in
theorem wordsPrintedUpto_lifted (os : Os) (started : os.Started) (H : Type) (enc : TypeId × Value → H) (F : Stop.Interp) :
    ReturnsInHanded {} Tryd.checked os 3 .any ((Rows.OpenSpec.upto Rows.wordsPrintedSpec).preRow enc Tryd.prog Tryd.f3 Rows.wordsPrintedUptoRow.domain false Rows.wordsPrintedUptoRow.laid) (((Rows.OpenSpec.upto Rows.wordsPrintedSpec).at F).post enc Tryd.prog Tryd.f3 false true false false) := by
  obtain ⟨places, hx⟩ := reads_wordsPrinted os enc
  refine law_lifted_row (C := Tryd.checked) (s := Rows.OpenSpec.upto Rows.wordsPrintedSpec) Tryd.own_wordsPrinted started (by kernel_rfl) Tryd.func3
    (witness_row_shaped (enc := enc) (C := Tryd.checked) (World.laidAll Tryd.prog os Rows.wordsPrintedUptoRow.laid) #[.string ⟨#[]⟩, .agg #[.string ⟨#[]⟩, .slice none 0 0, .int .i64 0]] (World.laidAll_os _ _ _)
      (World.shaped_of_ZipB (by kernel_rfl) (by kernel_rfl)) (by kernel_rfl)
      (OpenSpec.preRow_of_cond 8 hx (by kernel_rfl) (fun k hk => by cases hk; kernel_rfl) (by kernel_rfl) (by rw [MakeChecks.laidMetH_plain _ _ _ (by kernel_rfl)]; exact laidMet_laidAll _ (by kernel_rfl) (by kernel_rfl))))
    Tryd.laidOut_wordsPrinted (by kernel_rfl) rfl ?_ (tb := 4) (by kernel_rfl) Tryd.underlying4 ?_
  · intro ds h
    match ds, h with
    | [d0, d1], _ => rfl
  · intro W base args ds ps hval0 hA0 hfz hsz0 hcond _ hsh
    have hkk := hcond _ rfl
    have hval : ∀ (j : Nat) t v, Tryd.f3.params[j]? = some t → args[j]? = some v → Value.okWide Tryd.prog W .any base t v := hval0
    have hA : DataW.TrodAll enc Tryd.prog W 0 (fun _ => true) true Tryd.f3.params.toList args.toList ds ps := hA0
    rw [Tryd.params3] at hA hval
    obtain ⟨v0, v1, d0, d1, p0, p1, rfl, rfl, rfl, h0, h1⟩ := trodAll_two hA
    obtain ⟨fu0, h0⟩ := h0
    obtain ⟨s0, rfl⟩ := okWide_string Tryd.underlying9 (hval 0 9 v0 rfl rfl)
    obtain ⟨s, e, ex, _⟩ := DataW.trod_string Tryd.underlying9 h0
    have hse : s = s0 := by
      have h2 : [Value.string s0] = [.string s] := by simpa [Value.cells] using e
      injection h2 with h2
      injection h2 with h2
      exact h2.symm
    subst hse
    obtain ⟨x0, x1, x2, y0, y1, y2, m, rfl, rfl, rfl, g0, g1, g2⟩ := open_agg3 Tryd.underlying24 (by kernel_rfl) (by kernel_rfl) (hval 1 24 v1 rfl rfl) h1
    obtain ⟨op, eo, exo, _⟩ := DataW.trod_string Tryd.underlying9 g0
    obtain ⟨kk, ek, _⟩ := DataW.trod_int Tryd.underlying3 g2
    obtain ⟨A, n, c, ps, rfl, hrs, _, _, hel⟩ := open_recs_d Pt.zero (cl := Pt.cells) (s := 3) (fun _ => rfl) (by omega) (fun d p => p.text.size + 1 ≤ Rows.uptoBulk d) Tryd.underlying22 (by kernel_rfl) pt_open g1
    simp at eo ek
    subst eo; subst ek
    have hk := of_decide_eq_true hkk
    simp only [Rows.uptoBulkAll, Rows.uptoBulk] at hk
    injection ex with ex0 _
    subst ex0
    rw [bulks.string_eq] at hk
    have hs3 : s.data.toList.length = s.size := by simp
    have ho3 : op.data.toList.length = op.size := by simp
    have hop : op.size + 1 = Rows.uptoBulk y0.1 := by rw [exo]; dsimp only; rw [bulks.string_eq, ho3]
    have hpa : n ≤ 1048576 ∧ ∀ p ∈ ps, p.text.size ≤ 1048576 := by
      rcases hel with ⟨_, rfl⟩ | ⟨el, sp, e1, hn, hall⟩
      · have hps : ps = [] := List.eq_nil_of_length_eq_zero hrs.2
        subst hps
        exact ⟨by omega, fun p hp => by simp at hp⟩
      · rw [e1] at hk
        have q1 := bulks.slice_le el sp
        have q2 := bulks.slice_elems el sp
        refine ⟨by omega, fun p hp => ?_⟩
        obtain ⟨d, hd, h5⟩ := hall p hp
        have := bulks.part_le hd
        omega
    exact law_wordsPrinted s ⟨op, A, n, c, ps, _⟩ W ⟨hrs, hpa.1, hpa.2, by show op.size ≤ _; omega⟩ (by omega) (varOk_of hsh)
theorem wordsPrintedUpto_said : Rows.WordsPrintedUptoSaid :=
  OpenClaim.holds_of_cond 3 Tryd.f3 rfl rfl rfl rfl rfl rfl rfl ⟨rfl, rfl, rfl, rfl, rfl⟩ rfl rfl rfl rfl rfl (by kernel_rfl) Tryd.func3 (by kernel_rfl)
    (of_decide_eq_true (by kernel_rfl)) (by unfold Func.isWrapper; first | (rw [if_pos (by decide +kernel)]; kernel_rfl) | (rw [if_neg (by decide +kernel)]; exact ⟨rfl, rfl⟩))
    (fun os started H enc _ F => by rw [OpenClaim.pre_eq_preRow]; exact wordsPrintedUpto_lifted os started H enc F)
theorem wordsPrinted_plain (f : FuncId) (fn : Func) (hf : Tryd.pinned.checked.prog.funcNamed "ringhall/ringlaw4.WordsPrinted" = some f) (hfn : Tryd.pinned.checked.prog.funcs[f]? = some fn) :
    false = Tryd.pinned.checked.prog.looks [] ∧ ∀ (j : Nat) t, fn.params[j]? = some t → Tryd.pinned.checked.prog.wantsStandIn t = false := by
  obtain rfl : f = 3 := Option.some.inj ((show Tryd.prog.funcNamed "ringhall/ringlaw4.WordsPrinted" = some 3 by kernel_rfl).symm.trans hf) |>.symm
  obtain rfl : fn = Tryd.f3 := (Option.some.inj (Tryd.func3.symm.trans hfn)).symm
  refine ⟨by kernel_rfl, fun j t ht => ?_⟩
  rw [Tryd.params3] at ht
  have hm : t ∈ [9, 24] := by simpa using Array.mem_of_getElem? ht
  have hall : ([9, 24].all fun u => !Tryd.prog.wantsStandIn u) = true := by kernel_rfl
  exact (show Tryd.prog.wantsStandIn t = false by simpa using List.all_eq_true.1 hall t hm)
/-- The card of the second form. -/
theorem wordsPrintedUpto_holds : Rows.WordsPrintedUptoCardSaid :=
  Claim7.holds_tied_plain_at .later [] _ _ _ _ wordsPrintedUpto_said (fun _ h => by cases h) (by kernel_rfl) (fun _ h => by cases h) wordsPrintedUpto_row_tie rfl ⟨rfl, rfl⟩ (by kernel_rfl) rfl wordsPrinted_plain (by kernel_rfl)
#print axioms wordsPrintedUpto_holds
end Go.Proofs.YtdchopaokjpmdaaDoor
