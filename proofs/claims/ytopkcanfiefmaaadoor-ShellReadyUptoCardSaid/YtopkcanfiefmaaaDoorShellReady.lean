/- Proved: the card of the second form: for every command, every list of variables and every status, where what is read is of bulk at most 1048576, the call ringlaw4.ShellReady returns true and leaves its arguments as they were. The conditions: what is read is of bulk at most 1048576; the listed package variables hold what the program's text lays. -/
import Derived.Test.YtopkcanfiefmaaaDoorCards
import Derived.Test.YtopkcanfiefmaaaDoorTie
import Derived.Test.YtopkcanfiefmaaaDoorBulk
import Derived.Test.YtopkcanfiefmaaaDoorLawR
import Derived.Test.YtopkcanfiefmaaaDoorRyD
import Derived.SevenTiedAt
import Derived.Stop.LaidErr
namespace Go.Proofs.YtopkcanfiefmaaaDoor
open Go.ChangeShapes Go.WideShapes Go.ChangeAt Go.RowKit Go.Joins Go.Deep
set_option linter.unusedVariables false
section
variable {H : Type} {enc : TypeId × Value → H} {w : World} {base : Nat} {held : Bool}
theorem pt_open (fu : Nat) (cs : List Value) (y : DataW H × List MemPlace) (h : DataW.trod enc Tryd.prog w base (fun _ => true) held fu 49 cs = some y) (hl : cs.length = 3) : ∃ p : Pt, cs = p.cells ∧ p.text.size + 1 ≤ Rows.uptoBulk y.1 := by
  obtain ⟨xs, n, _, rfl, _, hxl, hf⟩ := DataW.trod_struct Tryd.underlying49 h
  match cs, hl with
  | [v0, v1, v2], _ =>
    have h0 : DataW.trod enc Tryd.prog w base (fun _ => true) held n 9 (([v0, v1, v2].drop 0).take (Tryd.prog.cellsOf 9)) = xs[0]? := hf 0 _ rfl
    have h1 : DataW.trod enc Tryd.prog w base (fun _ => true) held n 4 (([v0, v1, v2].drop 1).take (Tryd.prog.cellsOf 4)) = xs[1]? := hf 1 _ rfl
    have h2 : DataW.trod enc Tryd.prog w base (fun _ => true) held n 4 (([v0, v1, v2].drop 2).take (Tryd.prog.cellsOf 4)) = xs[2]? := hf 2 _ rfl
    rw [show Tryd.prog.cellsOf 9 = 1 by kernel_rfl] at h0
    rw [show Tryd.prog.cellsOf 4 = 1 by kernel_rfl] at h1 h2
    match xs, hxl with
    | [x0, x1, x2], _ =>
      obtain ⟨s, e0, ex0, _⟩ := DataW.trod_string Tryd.underlying9 (show DataW.trod enc Tryd.prog w base _ held n 9 _ = some x0 from h0)
      obtain ⟨b1, e1, _⟩ := DataW.trod_bool Tryd.underlying4 (show DataW.trod enc Tryd.prog w base _ held n 4 _ = some x1 from h1)
      obtain ⟨b2, e2, _⟩ := DataW.trod_bool Tryd.underlying4 (show DataW.trod enc Tryd.prog w base _ held n 4 _ = some x2 from h2)
      simp at e0 e1 e2
      subst e0; subst e1; subst e2
      refine ⟨⟨s, b1, b2⟩, rfl, ?_⟩
      subst ex0
      have := bulks.part_le (H := H) (d := .lit (.string s.data.toList)) (l := ([((.lit (.string s.data.toList) : DataW H), ([] : List MemPlace)), x1, x2]).map (·.1)) (by simp)
      rw [bulks.string_eq] at this
      have h3 : s.data.toList.length = s.size := by simp
      simp only [Rows.uptoBulk]
      omega
theorem vr_open (fu : Nat) (cs : List Value) (y : DataW H × List MemPlace) (h : DataW.trod enc Tryd.prog w base (fun _ => true) held fu 43 cs = some y) (hl : cs.length = 2) : ∃ v : Vr, cs = v.cells ∧ v.name.size + 1 ≤ Rows.uptoBulk y.1 := by
  obtain ⟨xs, n, _, rfl, _, hxl, hf⟩ := DataW.trod_struct Tryd.underlying43 h
  match cs, hl with
  | [v0, v1], _ =>
    have h0 : DataW.trod enc Tryd.prog w base (fun _ => true) held n 9 (([v0, v1].drop 0).take (Tryd.prog.cellsOf 9)) = xs[0]? := hf 0 _ rfl
    have h1 : DataW.trod enc Tryd.prog w base (fun _ => true) held n 9 (([v0, v1].drop 1).take (Tryd.prog.cellsOf 9)) = xs[1]? := hf 1 _ rfl
    rw [show Tryd.prog.cellsOf 9 = 1 by kernel_rfl] at h0 h1
    match xs, hxl with
    | [x0, x1], _ =>
      obtain ⟨s, e0, ex0, _⟩ := DataW.trod_string Tryd.underlying9 (show DataW.trod enc Tryd.prog w base _ held n 9 _ = some x0 from h0)
      obtain ⟨s1, e1, _⟩ := DataW.trod_string Tryd.underlying9 (show DataW.trod enc Tryd.prog w base _ held n 9 _ = some x1 from h1)
      simp at e0 e1
      subst e0; subst e1
      refine ⟨⟨s, s1⟩, rfl, ?_⟩
      subst ex0
      have := bulks.part_le (H := H) (d := .lit (.string s.data.toList)) (l := ([((.lit (.string s.data.toList) : DataW H), ([] : List MemPlace)), x1]).map (·.1)) (by simp)
      rw [bulks.string_eq] at this
      have h3 : s.data.toList.length = s.size := by simp
      simp only [Rows.uptoBulk]
      omega
/-- A token as it was read: its bulk bounds all of it. -/
def TkD (w : World) (R : Nat) (t : Tk) : Prop := RS Pt.cells 3 w w.heap.size t.A t.n t.ps ∧ t.n ≤ R ∧ (∀ p ∈ t.ps, p.text.size ≤ R) ∧ t.op.size ≤ R
theorem TkD.mono {w : World} {R R' : Nat} {t : Tk} (h : TkD w R t) (hR : R ≤ R') : TkD w R' t := ⟨h.1, by have := h.2.1; omega, fun p hp => by have := h.2.2.1 p hp; omega, by have := h.2.2.2; omega⟩
theorem tk_open (fu : Nat) (cs : List Value) (y : DataW H × List MemPlace) (h : DataW.trod enc Tryd.prog w base (fun _ => true) held fu 37 cs = some y) (hl : cs.length = 3) : ∃ t : Tk, cs = t.cells ∧ TkD w (Rows.uptoBulk y.1) t := by
  obtain ⟨xs, n, _, rfl, _, hxl, hf⟩ := DataW.trod_struct Tryd.underlying37 h
  match cs, hl with
  | [v0, v1, v2], _ =>
    have h0 : DataW.trod enc Tryd.prog w base (fun _ => true) held n 9 (([v0, v1, v2].drop 0).take (Tryd.prog.cellsOf 9)) = xs[0]? := hf 0 _ rfl
    have h1 : DataW.trod enc Tryd.prog w base (fun _ => true) held n 35 (([v0, v1, v2].drop 1).take (Tryd.prog.cellsOf 35)) = xs[1]? := hf 1 _ rfl
    have h2 : DataW.trod enc Tryd.prog w base (fun _ => true) held n 3 (([v0, v1, v2].drop 2).take (Tryd.prog.cellsOf 3)) = xs[2]? := hf 2 _ rfl
    rw [show Tryd.prog.cellsOf 9 = 1 by kernel_rfl] at h0
    rw [show Tryd.prog.cellsOf 35 = 1 by kernel_rfl] at h1
    rw [show Tryd.prog.cellsOf 3 = 1 by kernel_rfl] at h2
    match xs, hxl with
    | [x0, x1, x2], _ =>
      obtain ⟨s, e0, ex0, _⟩ := DataW.trod_string Tryd.underlying9 (show DataW.trod enc Tryd.prog w base _ held n 9 _ = some x0 from h0)
      obtain ⟨kk, e2, _⟩ := DataW.trod_int Tryd.underlying3 (show DataW.trod enc Tryd.prog w base _ held n 3 _ = some x2 from h2)
      obtain ⟨A, m, c, ps, e1, hrs, _, _, hel⟩ := open_recs_d Pt.zero (cl := Pt.cells) (s := 3) (fun _ => rfl) (by omega) (fun d p => p.text.size + 1 ≤ Rows.uptoBulk d) Tryd.underlying35 (by kernel_rfl) pt_open (show DataW.trod enc Tryd.prog w base _ held n 35 [v1] = some x1 from h1)
      simp at e0 e2
      subst e0; subst e1; subst e2
      refine ⟨⟨s, A, m, c, kk, ps⟩, rfl, ?_⟩
      subst ex0
      have q0 := bulks.part_le (H := H) (d := .lit (.string s.data.toList)) (l := ([((.lit (.string s.data.toList) : DataW H), ([] : List MemPlace)), x1, x2]).map (·.1)) (by simp)
      have q1 := bulks.part_le (H := H) (d := x1.1) (l := ([((.lit (.string s.data.toList) : DataW H), ([] : List MemPlace)), x1, x2]).map (·.1)) (by simp)
      rw [bulks.string_eq] at q0
      have h3 : s.data.toList.length = s.size := by simp
      generalize ([((.lit (.string s.data.toList) : DataW H), ([] : List MemPlace)), x1, x2]).map (·.1) = L at *
      have hR : Rows.uptoBulkAll L ≤ Rows.uptoBulk (DataW.agg L) := by simp only [Rows.uptoBulk]; omega
      show TkD w (Rows.uptoBulk (DataW.agg L)) _
      refine ⟨hrs, ?_, ?_, show s.size ≤ _ by omega⟩
      · show m ≤ _
        rcases hel with ⟨_, rfl⟩ | ⟨el, sp, e1, hn, hall⟩
        · omega
        · rw [e1] at q1
          have := bulks.slice_le el sp
          omega
      · intro p hp
        rcases hel with ⟨_, rfl⟩ | ⟨el, sp, e1, hn, hall⟩
        · have : ps = [] := List.eq_nil_of_length_eq_zero hrs.2
          subst this
          cases hp
        · rw [e1] at q1
          obtain ⟨d, hd, h5⟩ := hall p hp
          have := bulks.slice_elems el sp
          have := bulks.part_le hd
          omega
theorem rd_open (fu : Nat) (cs : List Value) (y : DataW H × List MemPlace) (h : DataW.trod enc Tryd.prog w base (fun _ => true) held fu 41 cs = some y) (hl : cs.length = 4) : ∃ r : Rd, cs = r.cells ∧ TkD w (Rows.uptoBulk y.1) r.tk := by
  obtain ⟨xs, n, _, rfl, _, hxl, hf⟩ := DataW.trod_struct Tryd.underlying41 h
  match cs, hl with
  | [v0, v1, v2, v3], _ =>
    have h0 : DataW.trod enc Tryd.prog w base (fun _ => true) held n 9 (([v0, v1, v2, v3].drop 0).take (Tryd.prog.cellsOf 9)) = xs[0]? := hf 0 _ rfl
    have h1 : DataW.trod enc Tryd.prog w base (fun _ => true) held n 37 (([v0, v1, v2, v3].drop 1).take (Tryd.prog.cellsOf 37)) = xs[1]? := hf 1 _ rfl
    rw [show Tryd.prog.cellsOf 9 = 1 by kernel_rfl] at h0
    rw [show Tryd.prog.cellsOf 37 = 3 by kernel_rfl] at h1
    match xs, hxl with
    | [x0, x1], _ =>
      obtain ⟨s, e0, ex0, _⟩ := DataW.trod_string Tryd.underlying9 (show DataW.trod enc Tryd.prog w base _ held n 9 _ = some x0 from h0)
      obtain ⟨t, e1, ht⟩ := tk_open n [v1, v2, v3] x1 h1 rfl
      simp at e0
      subst e0
      refine ⟨⟨s, t⟩, ?_, ht.mono ?_⟩
      · show [Value.string s, v1, v2, v3] = Value.string s :: t.cells
        rw [← e1]
      · have q1 := bulks.part_le (H := H) (d := x1.1) (l := ([x0, x1]).map (·.1)) (by simp)
        simp only [Rows.uptoBulk]
        omega
end
theorem varOk_of {w : World} (h : w.ShapedOpen Tryd.prog) (hl : laidMet Tryd.prog Rows.shellReadyUptoRow.laid w) : VarOk w := by
  obtain ⟨m, hm⟩ := cell_of_shapedOpen_int (g := 1) (zero := #[.int .i64 0]) (t := 3) h (by decide +kernel) (by kernel_rfl) rfl (by kernel_rfl) (by kernel_rfl) Tryd.underlying3
  have h3 : laidMet Tryd.prog (("internal/strconv.uint64pow10", Lib.tabData .u64 Lib.pow10Tab) :: [("unicode/utf8.acceptRanges", Rows.laid_unicode_utf8_acceptRanges), ("unicode/utf8.first", Rows.laid_unicode_utf8_first)]) w := hl.tail.tail
  exact ⟨World.block_lt_of_cell? w _ hm, Lib.tabIs_of_head (g := 0) (t := 76) (e := 65) (n := 20) (by kernel_rfl) (by kernel_rfl) (by kernel_rfl) (by kernel_rfl) (by kernel_rfl) (by kernel_rfl) h3, m, hm⟩
theorem Tryd.own_shellReady : ownKnob Tryd.prog.godebug = none := by kernel_rfl
theorem Tryd.laidOut_shellReady : laidOutB Tryd.prog = true := by kernel_rfl
theorem reads_shellReady (os : Os) {H : Type} (enc : TypeId × Value → H) : ∃ places, DataW.whole enc Tryd.prog ((World.laidAll Tryd.prog os Rows.shellReadyUptoRow.laid).forCall (fun _ _ => 0) ⟨#[], #[.agg #[.slice none 0 0, .slice none 0 0], .slice none 0 0, .int .i64 0], []⟩).memory Tryd.f3.params.toList Rows.shellReadySpec.vars false #[Value.agg #[.slice none 0 0, .slice none 0 0], .slice none 0 0, .int .i64 0].toList 8 = some ([.agg [.nil, .nil], .nil, .lit (.int .i64 0)], [], places) :=
  ⟨[], by kernel_rfl⟩
set_option maxRecDepth 100000 in
theorem shellReadyUpto_lifted (os : Os) (started : os.Started) (H : Type) (enc : TypeId × Value → H) (F : Stop.Interp) :
    ReturnsInHanded {} Tryd.checked os 3 .any ((Rows.OpenSpec.upto Rows.shellReadySpec).preRow enc Tryd.prog Tryd.f3 Rows.shellReadyUptoRow.domain false Rows.shellReadyUptoRow.laid) (((Rows.OpenSpec.upto Rows.shellReadySpec).at F).post enc Tryd.prog Tryd.f3 false true false false) := by
  obtain ⟨places, hx⟩ := reads_shellReady os enc
  refine law_lifted_row (C := Tryd.checked) (s := Rows.OpenSpec.upto Rows.shellReadySpec) Tryd.own_shellReady started (by kernel_rfl) Tryd.func3
    (witness_row_shaped (enc := enc) (C := Tryd.checked) (World.laidAll Tryd.prog os Rows.shellReadyUptoRow.laid) #[.agg #[.slice none 0 0, .slice none 0 0], .slice none 0 0, .int .i64 0] (World.laidAll_os _ _ _)
      (World.shaped_of_ZipB (by kernel_rfl) (by kernel_rfl)) (by kernel_rfl)
      (OpenSpec.preRow_of_cond 8 hx (by kernel_rfl) (fun k hk => by cases hk; kernel_rfl) (by kernel_rfl) (by rw [MakeChecks.laidMetH_plain _ _ _ (by kernel_rfl)]; exact laidMet_laidAll _ (by kernel_rfl) (by kernel_rfl))))
    Tryd.laidOut_shellReady (by kernel_rfl) rfl ?_ (tb := 4) (by kernel_rfl) Tryd.underlying4 ?_
  · intro ds h
    match ds, h with
    | [d0, d1, d2], _ => rfl
  · intro W base args ds ps hval0 hA0 hfz hsz0 hcond hlaid hsh
    have hlaid' : laidMetH Tryd.prog Rows.shellReadyUptoRow.laid W := hlaid
    rw [MakeChecks.laidMetH_plain _ _ _ (by kernel_rfl)] at hlaid'
    have hvo := varOk_of hsh hlaid'
    have hkk := hcond _ rfl
    have hval : ∀ (j : Nat) t v, Tryd.f3.params[j]? = some t → args[j]? = some v → Value.okWide Tryd.prog W .any base t v := hval0
    have hA : DataW.TrodAll enc Tryd.prog W 0 (fun _ => true) true Tryd.f3.params.toList args.toList ds ps := hA0
    rw [Tryd.params3] at hA hval
    obtain ⟨v0, v1, v2, d0, d1, d2, p0, p1, p2, rfl, rfl, rfl, h0, h1, h2⟩ := trodAll_three hA
    obtain ⟨x0, x1, y0, y1, m, rfl, rfl, rfl, g0, g1⟩ := open_agg2 Tryd.underlying25 (by kernel_rfl) (by kernel_rfl) (hval 0 25 v0 rfl rfl) h0
    obtain ⟨WA, wn, wc, ws, rfl, hws, _, _, hwel⟩ := open_recs_d Tk.zero (cl := Tk.cells) (s := 3) (fun _ => rfl) (by omega) (fun d t => TkD W (Rows.uptoBulk d) t) Tryd.underlying22 (by kernel_rfl) tk_open g0
    obtain ⟨RA, rn, rc, rs, rfl, hrs, _, _, hrel⟩ := open_recs_d Rd.zero (cl := Rd.cells) (s := 4) (fun _ => rfl) (by omega) (fun d r => TkD W (Rows.uptoBulk d) r.tk) Tryd.underlying23 (by kernel_rfl) rd_open g1
    obtain ⟨z1, e1, f1⟩ := okWide_slice Tryd.underlying26 (hval 1 26 v1 rfl rfl)
    obtain ⟨z2, e2⟩ := okWide_int Tryd.underlying3 (hval 2 3 v2 rfl rfl)
    obtain ⟨f1', rfl⟩ := f1
    subst e2
    obtain ⟨fu1, h1⟩ := h1
    obtain ⟨fu2, h2⟩ := h2
    obtain ⟨VA, vn, vc, vars, hve, hvs, _, _, hvel⟩ := open_recs_d Vr.zero (cl := Vr.cells) (s := 2) (fun _ => rfl) (by omega) (fun d v => v.name.size + 1 ≤ Rows.uptoBulk d) Tryd.underlying26 (by kernel_rfl) vr_open (show DataW.trod enc Tryd.prog W 0 (fun _ => true) true fu1 26 [_] = some (d1, p1) from h1)
    obtain ⟨k, ekk, _, hkw⟩ := DataW.trod_int Tryd.underlying3 h2
    obtain rfl : z2 = k := by simpa [Value.cells] using ekk
    rw [hve]
    have hkr : -9223372036854775808 ≤ z2 ∧ z2 ≤ 9223372036854775807 := by
      simp [Lit.wf, IntKind.min, IntKind.max, IntKind.signed, IntKind.bits] at hkw
      omega
    have hk := of_decide_eq_true hkk
    simp only [Rows.uptoBulkAll, Rows.uptoBulk] at hk
    have hpw : wn ≤ 1048576 ∧ ∀ t ∈ ws, t.Ok W W.heap.size := by
      rcases hwel with ⟨_, rfl⟩ | ⟨el, sp, e1, hn, hall⟩
      · have hps : ws = [] := List.eq_nil_of_length_eq_zero hws.2
        subst hps
        exact ⟨by omega, fun p hp => by simp at hp⟩
      · rw [e1] at hk
        have q1 := bulks.slice_le el sp
        have q2 := bulks.slice_elems el sp
        refine ⟨by omega, fun t ht => ?_⟩
        obtain ⟨d, hd, h5⟩ := hall t ht
        have := bulks.part_le hd
        have h6 := h5.mono (show Rows.uptoBulk d ≤ 1048576 by omega)
        exact ⟨h6.1, h6.2.1, h6.2.2.1, h6.2.2.2⟩
    have hpr : rn ≤ 1048576 ∧ ∀ r ∈ rs, r.tk.Ok W W.heap.size := by
      rcases hrel with ⟨_, rfl⟩ | ⟨el, sp, e1, hn, hall⟩
      · have hps : rs = [] := List.eq_nil_of_length_eq_zero hrs.2
        subst hps
        exact ⟨by omega, fun p hp => by simp at hp⟩
      · rw [e1] at hk
        have q1 := bulks.slice_le el sp
        have q2 := bulks.slice_elems el sp
        refine ⟨by omega, fun t ht => ?_⟩
        obtain ⟨d, hd, h5⟩ := hall t ht
        have := bulks.part_le hd
        have h6 := h5.mono (show Rows.uptoBulk d ≤ 1048576 by omega)
        exact ⟨h6.1, h6.2.1, h6.2.2.1, h6.2.2.2⟩
    have hpv : vn ≤ 1048576 ∧ ∀ v ∈ vars, v.name.size ≤ 1048576 := by
      rcases hvel with ⟨_, rfl⟩ | ⟨el, sp, e1, hn, hall⟩
      · have hps : vars = [] := List.eq_nil_of_length_eq_zero hvs.2
        subst hps
        exact ⟨by omega, fun p hp => by simp at hp⟩
      · dsimp only at e1
        rw [e1] at hk
        have q1 := bulks.slice_le el sp
        have q2 := bulks.slice_elems el sp
        refine ⟨by omega, fun p hp => ?_⟩
        obtain ⟨d, hd, h5⟩ := hall p hp
        have := bulks.part_le hd
        omega
    exact law_shellReady WA wn wc ws RA rn rc rs VA vn _ vars z2 W ⟨hws, hpw.2, hpw.1, hrs, hpr.2, hpr.1, hvs, hpv.1, hpv.2⟩ hvo hkr.1 hkr.2
theorem shellReadyUpto_said : Rows.ShellReadyUptoSaid :=
  OpenClaim.holds_of_cond 3 Tryd.f3 rfl rfl rfl rfl rfl rfl rfl ⟨rfl, rfl, rfl, rfl, rfl⟩ rfl rfl rfl rfl rfl (by kernel_rfl) Tryd.func3 (by kernel_rfl)
    (of_decide_eq_true (by kernel_rfl)) (by unfold Func.isWrapper; first | (rw [if_pos (by decide +kernel)]; kernel_rfl) | (rw [if_neg (by decide +kernel)]; exact ⟨rfl, rfl⟩))
    (fun os started H enc _ F => by rw [OpenClaim.pre_eq_preRow]; exact shellReadyUpto_lifted os started H enc F)
theorem shellReady_plain (f : FuncId) (fn : Func) (hf : Tryd.pinned.checked.prog.funcNamed "ringhall/ringlaw4.ShellReady" = some f) (hfn : Tryd.pinned.checked.prog.funcs[f]? = some fn) :
    false = Tryd.pinned.checked.prog.looks [] ∧ ∀ (j : Nat) t, fn.params[j]? = some t → Tryd.pinned.checked.prog.wantsStandIn t = false := by
  obtain rfl : f = 3 := Option.some.inj ((show Tryd.prog.funcNamed "ringhall/ringlaw4.ShellReady" = some 3 by kernel_rfl).symm.trans hf) |>.symm
  obtain rfl : fn = Tryd.f3 := (Option.some.inj (Tryd.func3.symm.trans hfn)).symm
  refine ⟨by kernel_rfl, fun j t ht => ?_⟩
  rw [Tryd.params3] at ht
  have hm : t ∈ [25, 26, 3] := by simpa using Array.mem_of_getElem? ht
  have hall : ([25, 26, 3].all fun u => !Tryd.prog.wantsStandIn u) = true := by kernel_rfl
  exact (show Tryd.prog.wantsStandIn t = false by simpa using List.all_eq_true.1 hall t hm)
/-- The card of the second form. -/
theorem shellReadyUpto_holds : Rows.ShellReadyUptoCardSaid :=
  Claim7.holds_tied_plain_at .later [] _ _ _ _ shellReadyUpto_said (fun _ h => by cases h) (by kernel_rfl) (fun _ h => by cases h) shellReadyUpto_row_tie rfl ⟨rfl, rfl⟩ (by kernel_rfl) rfl shellReady_plain (by kernel_rfl)
#print axioms shellReadyUpto_holds
end Go.Proofs.YtopkcanfiefmaaaDoor
