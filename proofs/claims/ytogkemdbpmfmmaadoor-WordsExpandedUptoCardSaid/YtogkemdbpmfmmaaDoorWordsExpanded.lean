/- Proved: the card of the second form: for every token, every list of variables and every status, where what is read is of bulk at most 1048576, the call ringlaw4.WordsExpanded returns true and leaves its arguments as they were. The conditions: what is read is of bulk at most 1048576; the listed package variables hold what the program's text lays. -/
import Derived.Test.YtogkemdbpmfmmaaDoorCards
import Derived.Test.YtogkemdbpmfmmaaDoorTie
import Derived.Test.YtogkemdbpmfmmaaDoorBulk
import Derived.Test.YtogkemdbpmfmmaaDoorLawR
import Derived.Test.YtogkemdbpmfmmaaDoorExF
import Derived.SevenTiedAt
import Derived.Stop.LaidErr
namespace Go.Proofs.YtogkemdbpmfmmaaDoor
open Go.ChangeShapes Go.WideShapes Go.ChangeAt Go.RowKit Go.Joins Go.Deep
set_option linter.unusedVariables false
section
variable {H : Type} {enc : TypeId × Value → H} {w : World} {base : Nat} {held : Bool}
theorem pt_open (fu : Nat) (cs : List Value) (y : DataW H × List MemPlace) (h : DataW.trod enc Tryd.prog w base (fun _ => true) held fu 39 cs = some y) (hl : cs.length = 3) : ∃ p : Pt, cs = p.cells ∧ p.text.size + 1 ≤ Rows.uptoBulk y.1 := by
  obtain ⟨xs, n, _, rfl, _, hxl, hf⟩ := DataW.trod_struct Tryd.underlying39 h
  match cs, hl with
  | [v0, v1, v2], _ =>
    have h0 : DataW.trod enc Tryd.prog w base (fun _ => true) held n 9 (([v0, v1, v2].drop 0).take (Tryd.prog.cellsOf 9)) = xs[0]? := hf 0 _ rfl
    have h1 : DataW.trod enc Tryd.prog w base (fun _ => true) held n 4 (([v0, v1, v2].drop 1).take (Tryd.prog.cellsOf 4)) = xs[1]? := hf 1 _ rfl
    have h2 : DataW.trod enc Tryd.prog w base (fun _ => true) held n 4 (([v0, v1, v2].drop 2).take (Tryd.prog.cellsOf 4)) = xs[2]? := hf 2 _ rfl
    rw [show Tryd.prog.cellsOf 9 = 1 by kernel_rfl] at h0
    rw [show Tryd.prog.cellsOf 4 = 1 by kernel_rfl] at h1 h2
    match xs, hxl with
    | [x0, x1, x2], _ =>
      obtain ⟨s, e0, ex0, _⟩ := DataW.trod_string Tryd.underlying9 (show DataW.trod enc Tryd.prog w base _ held n 9 _ = some x0 from h0)
      obtain ⟨b1, e1, _⟩ := DataW.trod_bool Tryd.underlying4 (show DataW.trod enc Tryd.prog w base _ held n 4 _ = some x1 from h1)
      obtain ⟨b2, e2, _⟩ := DataW.trod_bool Tryd.underlying4 (show DataW.trod enc Tryd.prog w base _ held n 4 _ = some x2 from h2)
      simp at e0 e1 e2
      subst e0; subst e1; subst e2
      refine ⟨⟨s, b1, b2⟩, rfl, ?_⟩
      subst ex0
      have := bulks.part_le (H := H) (d := .lit (.string s.data.toList)) (l := ([((.lit (.string s.data.toList) : DataW H), ([] : List MemPlace)), x1, x2]).map (·.1)) (by simp)
      rw [bulks.string_eq] at this
      have h3 : s.data.toList.length = s.size := by simp
      simp only [Rows.uptoBulk]
      omega
theorem vr_open (fu : Nat) (cs : List Value) (y : DataW H × List MemPlace) (h : DataW.trod enc Tryd.prog w base (fun _ => true) held fu 33 cs = some y) (hl : cs.length = 2) : ∃ v : Vr, cs = v.cells ∧ v.name.size + 1 ≤ Rows.uptoBulk y.1 := by
  obtain ⟨xs, n, _, rfl, _, hxl, hf⟩ := DataW.trod_struct Tryd.underlying33 h
  match cs, hl with
  | [v0, v1], _ =>
    have h0 : DataW.trod enc Tryd.prog w base (fun _ => true) held n 9 (([v0, v1].drop 0).take (Tryd.prog.cellsOf 9)) = xs[0]? := hf 0 _ rfl
    have h1 : DataW.trod enc Tryd.prog w base (fun _ => true) held n 9 (([v0, v1].drop 1).take (Tryd.prog.cellsOf 9)) = xs[1]? := hf 1 _ rfl
    rw [show Tryd.prog.cellsOf 9 = 1 by kernel_rfl] at h0 h1
    match xs, hxl with
    | [x0, x1], _ =>
      obtain ⟨s, e0, ex0, _⟩ := DataW.trod_string Tryd.underlying9 (show DataW.trod enc Tryd.prog w base _ held n 9 _ = some x0 from h0)
      obtain ⟨s1, e1, _⟩ := DataW.trod_string Tryd.underlying9 (show DataW.trod enc Tryd.prog w base _ held n 9 _ = some x1 from h1)
      simp at e0 e1
      subst e0; subst e1
      refine ⟨⟨s, s1⟩, rfl, ?_⟩
      subst ex0
      have := bulks.part_le (H := H) (d := .lit (.string s.data.toList)) (l := ([((.lit (.string s.data.toList) : DataW H), ([] : List MemPlace)), x1]).map (·.1)) (by simp)
      rw [bulks.string_eq] at this
      have h3 : s.data.toList.length = s.size := by simp
      simp only [Rows.uptoBulk]
      omega
end
theorem varOk_of {w : World} (h : w.ShapedOpen Tryd.prog) (hl : laidMet Tryd.prog Rows.wordsExpandedUptoRow.laid w) : VarOk w := by
  obtain ⟨m, hm⟩ := cell_of_shapedOpen_int (g := 1) (zero := #[.int .i64 0]) (t := 3) h (by decide +kernel) (by kernel_rfl) rfl (by kernel_rfl) (by kernel_rfl) Tryd.underlying3
  have h3 : laidMet Tryd.prog (("internal/strconv.uint64pow10", Lib.tabData .u64 Lib.pow10Tab) :: [("unicode/utf8.acceptRanges", Rows.laid_unicode_utf8_acceptRanges), ("unicode/utf8.first", Rows.laid_unicode_utf8_first)]) w := hl.tail.tail
  exact ⟨World.block_lt_of_cell? w _ hm, Lib.tabIs_of_head (g := 0) (t := 66) (e := 55) (n := 20) (by kernel_rfl) (by kernel_rfl) (by kernel_rfl) (by kernel_rfl) (by kernel_rfl) (by kernel_rfl) h3, m, hm⟩
theorem Tryd.own_wordsExpanded : ownKnob Tryd.prog.godebug = none := by kernel_rfl
theorem Tryd.laidOut_wordsExpanded : laidOutB Tryd.prog = true := by kernel_rfl
theorem reads_wordsExpanded (os : Os) {H : Type} (enc : TypeId × Value → H) : ∃ places, DataW.whole enc Tryd.prog ((World.laidAll Tryd.prog os Rows.wordsExpandedUptoRow.laid).forCall (fun _ _ => 0) ⟨#[], #[.agg #[.string ⟨#[]⟩, .slice none 0 0, .int .i64 0], .slice none 0 0, .int .i64 0], []⟩).memory Tryd.f3.params.toList Rows.wordsExpandedSpec.vars false #[Value.agg #[.string ⟨#[]⟩, .slice none 0 0, .int .i64 0], .slice none 0 0, .int .i64 0].toList 8 = some ([.agg [.lit (.string []), .nil, .lit (.int .i64 0)], .nil, .lit (.int .i64 0)], [], places) :=
  ⟨[], by kernel_rfl⟩
set_option maxRecDepth 100000 in
theorem wordsExpandedUpto_lifted (os : Os) (started : os.Started) (H : Type) (enc : TypeId × Value → H) (F : Stop.Interp) :
    ReturnsInHanded {} Tryd.checked os 3 .any ((Rows.OpenSpec.upto Rows.wordsExpandedSpec).preRow enc Tryd.prog Tryd.f3 Rows.wordsExpandedUptoRow.domain false Rows.wordsExpandedUptoRow.laid) (((Rows.OpenSpec.upto Rows.wordsExpandedSpec).at F).post enc Tryd.prog Tryd.f3 false true false false) := by
  obtain ⟨places, hx⟩ := reads_wordsExpanded os enc
  refine law_lifted_row (C := Tryd.checked) (s := Rows.OpenSpec.upto Rows.wordsExpandedSpec) Tryd.own_wordsExpanded started (by kernel_rfl) Tryd.func3
    (witness_row_shaped (enc := enc) (C := Tryd.checked) (World.laidAll Tryd.prog os Rows.wordsExpandedUptoRow.laid) #[.agg #[.string ⟨#[]⟩, .slice none 0 0, .int .i64 0], .slice none 0 0, .int .i64 0] (World.laidAll_os _ _ _)
      (World.shaped_of_ZipB (by kernel_rfl) (by kernel_rfl)) (by kernel_rfl)
      (OpenSpec.preRow_of_cond 8 hx (by kernel_rfl) (fun k hk => by cases hk; kernel_rfl) (by kernel_rfl) (by rw [MakeChecks.laidMetH_plain _ _ _ (by kernel_rfl)]; exact laidMet_laidAll _ (by kernel_rfl) (by kernel_rfl))))
    Tryd.laidOut_wordsExpanded (by kernel_rfl) rfl ?_ (tb := 4) (by kernel_rfl) Tryd.underlying4 ?_
  · intro ds h
    match ds, h with
    | [d0, d1, d2], _ => rfl
  · intro W base args ds ps hval0 hA0 hfz hsz0 hcond hlaid hsh
    have hlaid' : laidMetH Tryd.prog Rows.wordsExpandedUptoRow.laid W := hlaid
    rw [MakeChecks.laidMetH_plain _ _ _ (by kernel_rfl)] at hlaid'
    have hvo := varOk_of hsh hlaid'
    have hkk := hcond _ rfl
    have hval : ∀ (j : Nat) t v, Tryd.f3.params[j]? = some t → args[j]? = some v → Value.okWide Tryd.prog W .any base t v := hval0
    have hA : DataW.TrodAll enc Tryd.prog W 0 (fun _ => true) true Tryd.f3.params.toList args.toList ds ps := hA0
    rw [Tryd.params3] at hA hval
    obtain ⟨v0, v1, v2, d0, d1, d2, p0, p1, p2, rfl, rfl, rfl, h0, h1, h2⟩ := trodAll_three hA
    obtain ⟨x0, x1, x2, y0, y1, y2, m, rfl, rfl, rfl, g0, g1, g2⟩ := open_agg3 Tryd.underlying24 (by kernel_rfl) (by kernel_rfl) (hval 0 24 v0 rfl rfl) h0
    obtain ⟨op, eo, exo, _⟩ := DataW.trod_string Tryd.underlying9 g0
    obtain ⟨kk, ek, _⟩ := DataW.trod_int Tryd.underlying3 g2
    obtain ⟨A, n, c, ps, rfl, hrs, _, _, hel⟩ := open_recs_d Pt.zero (cl := Pt.cells) (s := 3) (fun _ => rfl) (by omega) (fun d p => p.text.size + 1 ≤ Rows.uptoBulk d) Tryd.underlying22 (by kernel_rfl) pt_open g1
    obtain ⟨z1, e1, f1⟩ := okWide_slice Tryd.underlying25 (hval 1 25 v1 rfl rfl)
    obtain ⟨z2, e2⟩ := okWide_int Tryd.underlying3 (hval 2 3 v2 rfl rfl)
    obtain ⟨f1', rfl⟩ := f1
    subst e2
    obtain ⟨fu1, h1⟩ := h1
    obtain ⟨fu2, h2⟩ := h2
    obtain ⟨VA, vn, vc, vars, hve, hvs, _, _, hvel⟩ := open_recs_d Vr.zero (cl := Vr.cells) (s := 2) (fun _ => rfl) (by omega) (fun d v => v.name.size + 1 ≤ Rows.uptoBulk d) Tryd.underlying25 (by kernel_rfl) vr_open (show DataW.trod enc Tryd.prog W 0 (fun _ => true) true fu1 25 [_] = some (d1, p1) from h1)
    obtain ⟨k, ekk, _, hkw⟩ := DataW.trod_int Tryd.underlying3 h2
    simp at eo ek
    subst eo; subst ek
    obtain rfl : z2 = k := by simpa [Value.cells] using ekk
    rw [hve]
    have hkr : -9223372036854775808 ≤ z2 ∧ z2 ≤ 9223372036854775807 := by
      simp [Lit.wf, IntKind.min, IntKind.max, IntKind.signed, IntKind.bits] at hkw
      omega
    have hk := of_decide_eq_true hkk
    simp only [Rows.uptoBulkAll, Rows.uptoBulk] at hk
    have ho3 : op.data.toList.length = op.size := by simp
    have hop : op.size + 1 = Rows.uptoBulk y0.1 := by rw [exo]; dsimp only; rw [bulks.string_eq, ho3]
    have hpa : n ≤ 1048576 ∧ ∀ p ∈ ps, p.text.size ≤ 1048576 := by
      rcases hel with ⟨_, rfl⟩ | ⟨el, sp, e1, hn, hall⟩
      · have hps : ps = [] := List.eq_nil_of_length_eq_zero hrs.2
        subst hps
        exact ⟨by omega, fun p hp => by simp at hp⟩
      · rw [e1] at hk
        have q1 := bulks.slice_le el sp
        have q2 := bulks.slice_elems el sp
        refine ⟨by omega, fun p hp => ?_⟩
        obtain ⟨d, hd, h5⟩ := hall p hp
        have := bulks.part_le hd
        omega
    have hpv : vn ≤ 1048576 ∧ ∀ v ∈ vars, v.name.size ≤ 1048576 := by
      rcases hvel with ⟨_, rfl⟩ | ⟨el, sp, e1, hn, hall⟩
      · have hps : vars = [] := List.eq_nil_of_length_eq_zero hvs.2
        subst hps
        exact ⟨by omega, fun p hp => by simp at hp⟩
      · dsimp only at e1
        rw [e1] at hk
        have q1 := bulks.slice_le el sp
        have q2 := bulks.slice_elems el sp
        refine ⟨by omega, fun p hp => ?_⟩
        obtain ⟨d, hd, h5⟩ := hall p hp
        have := bulks.part_le hd
        omega
    exact law_wordsExpanded op A n c _ ps VA vn vc vars z2 W ⟨hrs, hpa.1, hpa.2, hvs, hpv.1, hpv.2, by omega⟩ hvo hkr.1 hkr.2
theorem wordsExpandedUpto_said : Rows.WordsExpandedUptoSaid :=
  OpenClaim.holds_of_cond 3 Tryd.f3 rfl rfl rfl rfl rfl rfl rfl ⟨rfl, rfl, rfl, rfl, rfl⟩ rfl rfl rfl rfl rfl (by kernel_rfl) Tryd.func3 (by kernel_rfl)
    (of_decide_eq_true (by kernel_rfl)) (by unfold Func.isWrapper; first | (rw [if_pos (by decide +kernel)]; kernel_rfl) | (rw [if_neg (by decide +kernel)]; exact ⟨rfl, rfl⟩))
    (fun os started H enc _ F => by rw [OpenClaim.pre_eq_preRow]; exact wordsExpandedUpto_lifted os started H enc F)
theorem wordsExpanded_plain (f : FuncId) (fn : Func) (hf : Tryd.pinned.checked.prog.funcNamed "ringhall/ringlaw4.WordsExpanded" = some f) (hfn : Tryd.pinned.checked.prog.funcs[f]? = some fn) :
    false = Tryd.pinned.checked.prog.looks [] ∧ ∀ (j : Nat) t, fn.params[j]? = some t → Tryd.pinned.checked.prog.wantsStandIn t = false := by
  obtain rfl : f = 3 := Option.some.inj ((show Tryd.prog.funcNamed "ringhall/ringlaw4.WordsExpanded" = some 3 by kernel_rfl).symm.trans hf) |>.symm
  obtain rfl : fn = Tryd.f3 := (Option.some.inj (Tryd.func3.symm.trans hfn)).symm
  refine ⟨by kernel_rfl, fun j t ht => ?_⟩
  rw [Tryd.params3] at ht
  have hm : t ∈ [24, 25, 3] := by simpa using Array.mem_of_getElem? ht
  have hall : ([24, 25, 3].all fun u => !Tryd.prog.wantsStandIn u) = true := by kernel_rfl
  exact (show Tryd.prog.wantsStandIn t = false by simpa using List.all_eq_true.1 hall t hm)
/-- The card of the second form. -/
theorem wordsExpandedUpto_holds : Rows.WordsExpandedUptoCardSaid :=
  Claim7.holds_tied_plain_at .later [] _ _ _ _ wordsExpandedUpto_said (fun _ h => by cases h) (by kernel_rfl) (fun _ h => by cases h) wordsExpandedUpto_row_tie rfl ⟨rfl, rfl⟩ (by kernel_rfl) rfl wordsExpanded_plain (by kernel_rfl)
#print axioms wordsExpandedUpto_holds
end Go.Proofs.YtogkemdbpmfmmaaDoor
