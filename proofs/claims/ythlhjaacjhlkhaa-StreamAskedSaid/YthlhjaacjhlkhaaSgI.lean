/- The law ringlaw4.StreamAsked. -/
import Derived.Test.YthlhjaacjhlkhaaSgH
import Derived.Test.YthlhjaacjhlkhaaPpE
import Derived.Deep.RegionHeld3
import Derived.Deep.RegionHeldLaw
import Derived.Deep.CutBlock
import Derived.Deep.DeepCutAuto
import Derived.LoopTactic
namespace Go.Proofs.Ythlhjaacjhlkhaa
open Go.RowKit
set_option maxHeartbeats 600000
set_option linter.unusedVariables false
set_option linter.unusedSimpArgs false
/-- A call of a Go function as one step of a region that draws its order. -/
theorem step_call_go7 {P : Program} {ops : Array Oper} {o : Oper} {a : Act} {w : World} {K : Act → World → Prop} {Q : Exit → Act → World → Prop} {E : Prop} (hgd : o.guard = none) (f : FuncId) (xs : Array Operand) (ats : Array TypeId)
    (ho : o.op = .call { callee := .value (.func f), args := xs, argTypes := ats }) (args : Array Value) (hargs : xs.map a.eval = args) (hrun : (callFunc f args).run P w = .ok (.enter f args) w) (Φ : Value → World → Prop)
    (hC : Calls P f args w fun e w' => ∃ v, e = .returned v ∧ Φ v w') (h : ∀ v w', Φ v w' → K (a.put o.dst v) w') : if Region.wanted o (yielded ops a.tmps) = true then Oper.wp P o a w K Q else E := by
  have hw : Region.wanted o (yielded ops a.tmps) = true := by simp [Region.wanted, hgd]
  rw [if_pos hw]
  unfold Oper.wp
  have e : execOp a.eval o = callFunc f args := by
    obtain ⟨dst, op, ty, pos, after, guard⟩ := o
    dsimp only at ho
    subst ho
    rw [execOp_call_go, hargs]
    simp
  rw [e, hrun, Oper.upon_enter]
  refine hC.mono ?_
  rintro e' w' ⟨v, rfl, hΦ⟩
  exact h v w' hΦ
theorem run52 (args : Array Value) (w : World) : (callFunc 52 args).run Try.prog w = .ok (.enter 52 args) w := by
  have h := Try.func52
  simp [callFunc, go_sem, h, Try.f52]
theorem run53 (args : Array Value) (w : World) : (callFunc 53 args).run Try.prog w = .ok (.enter 53 args) w := by
  have h := Try.func53
  simp [callFunc, go_sem, h, Try.f53]
theorem sameBytes_eq7 (A A' : Option Addr) (n c n' c' : Nat) (xs : List Int) (w : World) (B B' : Nat) (h : RB w B A n xs) (h' : RB w B' A' n' xs) :
    Calls Try.prog 18 #[.slice A n c, .slice A' n' c'] w fun e w' => e = .returned (.bool true) ∧ w = w' := by
  have e1 := h.conv (P := Try.prog) c 23 9 5 Try.underlying23 Try.underlying5 Try.underlying9
  have e2 := h'.conv (P := Try.prog) c' 23 9 5 Try.underlying23 Try.underlying5 Try.underlying9
  go_enter Try.func18, Try.ntmps18
  go_wp2
  go_ret
  exact ⟨rfl, rfl⟩
theorem outs_small {s : Sm} {m : Nat} (hok : s.Ok m) (hm : m ≤ 1000) : s.outsO.1.length ≤ 1000000 := by
  have hl : ∀ (lim f : Nat) (s1 : Sm), (Sm.loopO lim f s1).1.length ≤ f := by
    intro lim f
    induction f with
    | zero => intro s1; simp [Sm.loopO]
    | succ f ih =>
      intro s1
      unfold Sm.loopO
      split
      · have := ih (s1.sayS (min 32 (lim - (s1.nxt - 1))))
        simp only [List.length_cons]
        omega
      · simp
  have h1 : ∀ s1 : Sm, (Sm.finO s1).1.length ≤ 1 := fun s1 => by unfold Sm.finO; split <;> simp
  have h2 : ∀ s1 : Sm, (Sm.dueO s1).1.length ≤ 1 := fun s1 => by unfold Sm.dueO; split <;> simp
  unfold Sm.outsO
  split
  · unfold Sm.openO
    have := hl s.limitN 64 s
    have := h1 (Sm.loopO s.limitN 64 s).2
    have := h2 (Sm.finO (Sm.loopO s.limitN 64 s).2).2
    simp only [List.length_append]
    omega
  · unfold Sm.synO
    split <;> simp
set_option maxHeartbeats 8000000 in
set_option maxRecDepth 100000 in
theorem law_streamAsked (cl : Bool) (iss : Int) (hiss : 0 ≤ iss ∧ iss < 4294967296) (A : Option Addr) (n c : Nat) (ps : List Sact) (w : World) (h : RSa w w.heap.size A n ps) (hn : n ≤ 9223372036854775807) :
    Calls Try.prog 7 #[.bool cl, .int .u32 iss, .slice A n c] w fun e w' => e = .returned (.bool true) ∧ Below w.heap.size w w' := by
  have HH := Lib.hid h
  have HI := Lib.hid hiss
  clear h
  have HS := Lib.hid (sini w)
  obtain ⟨g, hg⟩ : ∃ g, g = w.heap.size := ⟨_, rfl⟩
  obtain ⟨q, hq⟩ : ∃ q, q = w.heap.size + 1 := ⟨_, rfl⟩
  rw [← hq, ← hg] at HS
  have HN37 : Hid (Calls Try.prog 37 #[] w fun e w' => e = .returned (.pointer (some ⟨g, 0, none⟩)) ∧ w'.heap.size = q ∧ w'.alloc (.cells (rcells sm0 (.slice none 0 0) (.slice none 0 0)) 66) = (w.alloc (.cells (ecells ex0 (.slice none 0 0) (.slice none 0 0)) 128)).alloc (.cells (rcells sm0 (.slice none 0 0) (.slice none 0 0)) 66)) := Lib.hid ((new37 w).mono (by
    rintro e w' ⟨rfl, rfl⟩
    exact ⟨by rw [hg], by rw [hq]; simp, rfl⟩))
  obtain ⟨w2, hw2⟩ : ∃ w2, w2 = (w.alloc (.cells (ecells ex0 (.slice none 0 0) (.slice none 0 0)) 128)).alloc (.cells (rcells sm0 (.slice none 0 0) (.slice none 0 0)) 66) := ⟨_, rfl⟩
  rw [← hw2] at HS HN37
  clear hw2 hg hq
  have HC2 := Lib.hid (call38_ok HS.out.e iss HI.out HS.out.bel.size)
  have HL2 := Lib.hid (listen40 HS.out.e iss HI.out HS.out.bel.size)
  have hgq : ¬ q = g := fun e => HS.out.ne e.symm
  have HRB := Lib.hid (fun w3 (hf : Fr (fun k => k = g) w2 w3) st => rbegun (Ob2.keep (w' := w3) HS.out.r hf (fun k hk e => by have h1 := nilF hk; have e : k = g := e; exact hgq (h1.symm.trans e))) st iss)
  go_enter Try.func7, Try.ntmps7
  go_wp2_with fail
  refine HN37.out.mono ?_
  rintro e w1 ⟨rfl, hq1, hw1⟩
  have HW1 := Lib.hid hw1
  have HQ1 := Lib.hid hq1
  clear hq1 hw1
  go_upto_region 3 with fail
  rw [HQ1.out]
  rw [show w1.alloc (.cells #[.int .i64 0, .int .u32 0, .int .u32 0, .slice none 0 0, .slice none 0 0, .int .i64 0, .int .i64 0, .int .i64 0, .int .i64 0, .int .i64 0, .bool false, .bool false, .bool false, .int .i64 0, .int .i64 0] 66) = w2 from HW1.out]
  clear HW1 HQ1 HN37
  go_upto_if 33 with fail
  go_cut [8] (fun v8 wx => v8 = .pointer (some ⟨q, 0, none⟩) ∧ ∃ st : Int, (st = 1 ∨ st = 2) ∧ ∃ vp vj, SBo w wx g q (Sm.start st iss) (exB st iss) (.slice none 0 0) (.slice none 0 0) vp vj)
  case first =>
    cases cl with
    | true =>
      go_wp2_with fail
      refine HC2.out.mono ?_
      rintro e w3 ⟨rfl, h3, hf3⟩
      have H3 := Lib.hid h3
      have HF3 := Lib.hid hf3
      clear h3 hf3
      go_wp2_with fail
      refine (HRB.out w3 HF3.out 2).mono ?_
      rintro e w4 ⟨rfl, hr4⟩
      have HBO1 := Lib.hid (HS.out.begun HI.out (.inr rfl) H3.out HF3.out hr4)
      clear hr4
      go_wp2
      go_meet
      exact ⟨rfl, 2, .inr rfl, HBO1.out⟩
    | false =>
      go_wp2_with fail
      refine HL2.out.mono ?_
      rintro e w3 ⟨rfl, h3, hf3⟩
      have H3 := Lib.hid h3
      have HF3 := Lib.hid hf3
      clear h3 hf3
      go_wp2_with fail
      refine (HRB.out w3 HF3.out 1).mono ?_
      rintro e w4 ⟨rfl, hr4⟩
      have HBO1 := Lib.hid (HS.out.begun HI.out (.inl rfl) H3.out HF3.out hr4)
      clear hr4
      go_wp2
      go_meet
      exact ⟨rfl, 1, .inl rfl, HBO1.out⟩
  case rest =>
    obtain ⟨rfl, st, hst, vp, vj, hbo⟩ := hcut
    rename World => w4
    have HBO0 : Hid (SBoE w w4 g q 0) := Lib.hid ⟨_, _, _, _, _, _, hbo, Sm.start_ok hst HI.out, Sm.Fn.start _ _⟩
    have HBAD := Lib.hid (call38_bad hbo.e (by show st ≠ 0; omega) iss)
    clear hbo hst HRB HC2 HL2 HS
    go_wp2_with fail
    refine HBAD.out.mono ?_
    rintro e w5 ⟨rfl, rfl⟩
    clear HBAD
    go_wp2
    go_loopw [60] (fun i wr => ∃ k : Nat, k ≤ n ∧ k ≤ 200 ∧ i = .int .i64 k ∧ SBoE w wr g q k) (fun i _ => n - (intOf i).toNat)
    case atStart => exact ⟨0, by omega, by omega, rfl, HBO0.out⟩
    case round =>
      clear HBO0
      obtain ⟨k, hk, hk200', rfl, s, x, vo, vi, vp, vj, hbo, hok, hfn⟩ := hrel
      have HBO := Lib.hid hbo
      have HOK := Lib.hid hok
      have HFN := Lib.hid hfn
      have hB := hbo.bel.size
      clear hbo
      by_cases hlt : k < n
      rotate_left
      · obtain rfl : k = n := by omega
        go_wp2
        go_ret
        exact ⟨rfl, HBO.out.bel⟩
      have hfine : (ps.getD k .zero).Fine w w.heap.size := by
        obtain ⟨_, _, _, _, _, _, _, _, _, _, _, _, hf⟩ := HH.out.at_ hlt
        exact hf
      obtain ⟨bb, o, rfl, hbb, z0, z1, z2, z3, z4, z5, z6, z7, -⟩ := (HH.out.below' HBO.out.bel (Nat.le_refl _)).at_ hlt
      generalize ps.getD k .zero = p at *
      obtain ⟨kd, nn, a, mm, cc, ds, sq, ak, fl, wi, A2, n2, c2, dat⟩ := p
      dsimp only at z0 z1 z2 z3 z4 z5 z6 z7
      have HF := Lib.hid hfine
      clear hfine
      have hkn : (k : Int) < n := by omega
      have hbw : bb < wr.heap.size := by omega
      by_cases h200 : k < 200
      rotate_left
      · have d3 : 200 ≤ k := by omega
        have d4 : decide (200 ≤ (k : Int)) = true := by simp; omega
        clear h200
        have HBO2 := Lib.hid (HBO.out.bel.trans (((Below.refl _ wr).alloc (Nat.le_refl _) (.cells #[.int .i64 kd, .int .i64 nn, .slice a mm cc, .int .u32 sq, .int .u32 ak, .int .i64 fl, .int .i64 wi, .slice A2 n2 c2] 70)).mono HBO.out.bel.size))
        go_wp2
        go_ret
        exact ⟨rfl, HBO2.out⟩
      have d4 : decide (200 ≤ (k : Int)) = false := by simp; omega
      have d5 : ¬ 200 ≤ k := by omega
      have hk200 := h200
      clear h200
      have HM := Lib.hid (SMid.lay HBO.out #[.int .i64 kd, .int .i64 nn, .slice a mm cc, .int .u32 sq, .int .u32 ak, .int .i64 fl, .int .i64 wi, .slice A2 n2 c2])
      have HLEN : Hid (s.out.length ≤ 64 ∧ s.inn.length ≤ 64) := Lib.hid ⟨by rw [s.out_len]; exact hok.room, by rw [s.inn_len]; exact hok.rroom⟩
      have HBD : Hid (s.top ≤ 64002 ∧ s.una ≤ 64002 ∧ s.said.length ≤ 1000000 ∧ s.got.length ≤ 1000000) := Lib.hid (by
        have h1 := hok.top_le (by omega : k ≤ 1000)
        have h2 := hok.nt
        have h3 := hok.un
        have h4 := hok.said
        have h5 := hok.got
        refine ⟨h1, by omega, by omega, by omega⟩)
      clear HBO hok hfn
      go_upto_block 2 with fail
      go_cut [11] (fun s11 wx => s11 = .bool true ∧ SMidE w wx g q wr.heap.size #[.int .i64 kd, .int .i64 nn, .slice a mm cc, .int .u32 sq, .int .u32 ak, .int .i64 fl, .int .i64 wi, .slice A2 n2 c2] (k + 1))
      case first =>
        by_cases y0 : kd = 0
        · as_aux_lemma =>
            have e0 : (kd == 0) = true := by simpa using y0
            clear y0
            have HW := Lib.hid (write41 HM.out.e HM.out.bel.size HLEN.out.1 a mm cc ds ((HF.out.ds.below' HM.out.bel (Nat.le_refl _)).more HM.out.bel.size) HF.out.mc.1 HF.out.mc.2)
            have htx := tie_givenX HM.out.tie HOK.out HFN.out ds
            have hte := tie_givenE HM.out.tie HOK.out ds
            have htn := tie_givenN HM.out.tie HOK.out ds
            have hdl : ds.length = mm := HF.out.ds.len
            rw [hdl] at hte htn
            rw [hte, htn, htx.2.1, htx.2.2] at HW
            have HOKN := Lib.hid (HOK.out.given (d := ds) HF.out.ds.2)
            have HFNN := Lib.hid (HFN.out.given ds)
            have HRW := Lib.hid (fun W x vo vi vp vj (hM : SMid w W g q (s.givenS ds) s x vo vi vp vj wr.heap.size #[.int .i64 kd, .int .i64 nn, .slice a mm cc, .int .u32 sq, .int .u32 ak, .int .i64 fl, .int .i64 wi, .slice A2 n2 c2]) => rgiven hM.r hM.bel.size (by have := HBD.out; omega) HBD.out.2.2.1 HOK.out.room a mm cc ds (HF.out.ds.below' hM.bel (Nat.le_refl _)) HF.out.mc.1 HF.out.mc.2)
            have HTX : Hid (Tie (s.givenS ds) x) := Lib.hid htx.1
            obtain ⟨xE, hxE⟩ : ∃ e, s.givenE ds = e := ⟨_, rfl⟩
            rw [hxE] at HW HRW
            obtain ⟨xN, hxN⟩ : ∃ e : Int, (if xE = 0 then (s.givenN ds : Int) else 0) = e := ⟨_, rfl⟩
            rw [hxN] at HRW
            have hxN2 : ((if xE = 0 then s.givenN ds else 0 : Nat) : Int) = xN := by rw [← hxN]; split <;> rfl
            rw [hxN2] at HW
            have HX9 := Lib.hid hxE
            clear hxE hxN hxN2 htx hte htn hdl
            have l0 := HM.out.act.cell 0
            have l1 := HM.out.act.cell 1
            have l2 := HM.out.act.cell 2
            have hla := HM.out.act.lt
            dsimp at l0 l1 l2
            go_wp2_with fail
            refine HW.out.mono ?_
            rintro e w5 ⟨rfl, hG⟩
            obtain ⟨v1, v2, hM5⟩ := HM.out.real HTX.out hG
            have HM5 := Lib.hid hM5
            clear hG hM5 l0 l1 l2 hla HW
            have l0 := HM5.out.act.cell 0
            have l1 := HM5.out.act.cell 1
            have l2 := HM5.out.act.cell 2
            have hla := HM5.out.act.lt
            dsimp at l0 l1 l2
            go_wp2_with fail
            refine (HRW.out _ _ _ _ _ _ HM5.out).mono ?_
            rintro e w6 ⟨rfl, hQ⟩
            obtain ⟨v3, v4, hM6⟩ := HM5.out.side hQ
            have HM6 := Lib.hid hM6
            clear hQ hM6 l0 l1 l2 hla HRW
            go_wp2
            go_meet
            exact ⟨rfl, _, _, _, _, _, _, HM6.out, HOKN.out, HFNN.out⟩
        by_cases y1 : kd = 1
        · as_aux_lemma =>
            have e0 : (kd == 0) = false := by simpa using y0
            have e1 : (kd == 1) = true := by simpa using y1
            clear y0 y1
            have HW := Lib.hid (readq43 HM.out.e HM.out.bel.size HLEN.out.2 nn)
            have htx := tie_takenX HM.out.tie HOK.out nn
            have hte := tie_takenE HM.out.tie HOK.out nn
            rw [hte, htx.2.1, htx.2.2.1, htx.2.2.2] at HW
            have HOKN := Lib.hid (HOK.out.taken nn)
            have HFNN := Lib.hid (HFN.out.taken nn)
            have HRW := Lib.hid (fun W x vo vi vp vj (hM : SMid w W g q (s.takenS nn) s x vo vi vp vj wr.heap.size #[.int .i64 kd, .int .i64 nn, .slice a mm cc, .int .u32 sq, .int .u32 ak, .int .i64 fl, .int .i64 wi, .slice A2 n2 c2]) => rtaken hM.r hM.bel.size HOK.out.rd HBD.out.2.2.2 nn)
            have HTX : Hid (Tie (s.takenS nn) (stRX x s.inn.length nn)) := Lib.hid htx.1
            obtain ⟨xE, hxE⟩ : ∃ e, s.takenE nn = e := ⟨_, rfl⟩
            obtain ⟨xV, hxV⟩ : ∃ e, s.takenV nn = e := ⟨_, rfl⟩
            rw [hxE, hxV] at HW HRW
            clear hxE hxV htx hte
            have l0 := HM.out.act.cell 0
            have l1 := HM.out.act.cell 1
            have l2 := HM.out.act.cell 2
            have hla := HM.out.act.lt
            dsimp at l0 l1 l2
            go_wp2_with fail
            refine HW.out.mono ?_
            rintro e w5 ⟨A5, c5, rfl, hr5, hG, hn5⟩
            obtain ⟨v1, v2, hM5⟩ := HM.out.real HTX.out hG
            have HM5 := Lib.hid hM5
            have HR5 := Lib.hid hr5
            have HN5 := Lib.hid hn5
            clear hG hM5 l0 l1 l2 hla HW hr5 hn5
            have l0 := HM5.out.act.cell 0
            have l1 := HM5.out.act.cell 1
            have l2 := HM5.out.act.cell 2
            have hla := HM5.out.act.lt
            dsimp at l0 l1 l2
            go_wp2_with fail
            refine (HRW.out _ _ _ _ _ _ HM5.out).mono ?_
            rintro e w6 ⟨A6, c6, rfl, hr6, hQ⟩
            have hfr := hQ
            obtain ⟨_, _, _, f9, _⟩ := hfr
            have HSB := Lib.hid (sameBytes_eq7 A5 A6 xV.length c5 xV.length c6 xV w6 _ _ (RB.fresh (c := c5) HR5.out (Nat.le_refl _) f9 (fun k hk hq => by have := HN5.out k hk; have := HM.out.ltR k hq; omega)) hr6)
            obtain ⟨v3, v4, hM6⟩ := HM5.out.side hQ
            have HM6 := Lib.hid hM6
            clear hQ hM6 l0 l1 l2 hla HRW hr6 f9
            go_wp2_with fail
            refine HSB.out.mono ?_
            rintro e w7 ⟨rfl, rfl⟩
            go_wp2
            go_meet
            exact ⟨rfl, _, _, _, _, _, _, HM6.out, HOKN.out, HFNN.out⟩
        by_cases y2 : kd = 2
        · as_aux_lemma =>
            have e0 : (kd == 0) = false := by simpa using y0
            have e1 : (kd == 1) = false := by simpa using y1
            have e2 : (kd == 2) = true := by simpa using y2
            clear y0 y1 y2
            have HW := Lib.hid (shut45 HM.out.e)
            have htx := tie_closedX HM.out.tie
            rw [tie_closedE HM.out.tie, htx.2.1, htx.2.2] at HW
            have HOKN := Lib.hid HOK.out.closed
            have HFNN := Lib.hid HFN.out.closed
            have HRW := Lib.hid (fun W x vo vi vp vj (hM : SMid w W g q s.closedS s x vo vi vp vj wr.heap.size #[.int .i64 kd, .int .i64 nn, .slice a mm cc, .int .u32 sq, .int .u32 ak, .int .i64 fl, .int .i64 wi, .slice A2 n2 c2]) => rclosed hM.r)
            have HTX : Hid (Tie s.closedS (shutX x)) := Lib.hid htx.1
            obtain ⟨xE, hxE⟩ : ∃ e, s.closedE = e := ⟨_, rfl⟩
            rw [hxE] at HW HRW
            clear hxE htx
            have l0 := HM.out.act.cell 0
            have l1 := HM.out.act.cell 1
            have l2 := HM.out.act.cell 2
            have hla := HM.out.act.lt
            dsimp at l0 l1 l2
            go_wp2_with fail
            refine HW.out.mono ?_
            rintro e w5 ⟨rfl, hG⟩
            obtain ⟨v1, v2, hM5⟩ := HM.out.real HTX.out hG
            have HM5 := Lib.hid hM5
            clear hG hM5 l0 l1 l2 hla HW
            go_wp2_with fail
            refine (HRW.out _ _ _ _ _ _ HM5.out).mono ?_
            rintro e w6 ⟨rfl, hQ⟩
            obtain ⟨v3, v4, hM6⟩ := HM5.out.side hQ
            have HM6 := Lib.hid hM6
            clear hQ hM6 HRW
            go_wp2
            go_meet
            exact ⟨rfl, _, _, _, _, _, _, HM6.out, HOKN.out, HFNN.out⟩
        by_cases y3 : kd = 3
        · as_aux_lemma =>
            have e0 : (kd == 0) = false := by simpa using y0
            have e1 : (kd == 1) = false := by simpa using y1
            have e2 : (kd == 2) = false := by simpa using y2
            have e3 : (kd == 3) = true := by simpa using y3
            clear y0 y1 y2 y3
            have HW := Lib.hid (tick47 HM.out.e (by rw [HM.out.tie.wait]; have := HOK.out.wait; omega) (by rw [HM.out.tie.tries]; have := HOK.out.tries; omega))
            have htx := tie_ticked HM.out.tie HOK.out (by have := hk200; omega)
            rw [htx.2.1, htx.2.2] at HW
            have HOKN := Lib.hid HOK.out.ticked
            have HFNN := Lib.hid HFN.out.ticked
            have HRW := Lib.hid (fun W x vo vi vp vj (hM : SMid w W g q s.tickedS s x vo vi vp vj wr.heap.size #[.int .i64 kd, .int .i64 nn, .slice a mm cc, .int .u32 sq, .int .u32 ak, .int .i64 fl, .int .i64 wi, .slice A2 n2 c2]) => rticked hM.r HOK.out.wait HOK.out.tries)
            have HTX : Hid (Tie s.tickedS (tickX x)) := Lib.hid htx.1
            clear htx
            have l0 := HM.out.act.cell 0
            have l1 := HM.out.act.cell 1
            have l2 := HM.out.act.cell 2
            have hla := HM.out.act.lt
            dsimp at l0 l1 l2
            go_wp2_with fail
            refine HW.out.mono ?_
            rintro e w5 ⟨rfl, hG⟩
            obtain ⟨v1, v2, hM5⟩ := HM.out.real HTX.out hG
            have HM5 := Lib.hid hM5
            clear hG hM5 l0 l1 l2 hla HW
            go_wp2_with fail
            refine (HRW.out _ _ _ _ _ _ HM5.out).mono ?_
            rintro e w6 ⟨rfl, hQ⟩
            obtain ⟨v3, v4, hM6⟩ := HM5.out.side hQ
            have HM6 := Lib.hid hM6
            clear hQ hM6 HRW
            go_wp2
            go_meet
            exact ⟨rfl, _, _, _, _, _, _, HM6.out, HOKN.out, HFNN.out⟩
        by_cases y4 : kd = 4
        · as_aux_lemma =>
            have e0 : (kd == 0) = false := by simpa using y0
            have e1 : (kd == 1) = false := by simpa using y1
            have e2 : (kd == 2) = false := by simpa using y2
            have e3 : (kd == 3) = false := by simpa using y3
            have e4 : (kd == 4) = true := by simpa using y4
            clear y0 y1 y2 y3 y4
            have HW := Lib.hid (out50 HM.out.e HM.out.tie HM.out.bel.size HOK.out (by have := hk200; omega))
            have HOKN := Lib.hid HOK.out.outs
            have HFNN := Lib.hid (Sm.Fn.outs HOK.out HFN.out)
            have HRW := Lib.hid (fun W s1 x vo vi vp vj (hM : SMid w W g q s1 s x vo vi vp vj wr.heap.size #[.int .i64 kd, .int .i64 nn, .slice a mm cc, .int .u32 sq, .int .u32 ak, .int .i64 fl, .int .i64 wi, .slice A2 n2 c2]) => outs51 hM.r hM.bel.size HOK.out (by have := hk200; omega))
            obtain ⟨RL, hRL⟩ : ∃ r, s.outsO.1 = r := ⟨_, rfl⟩
            have l0 := HM.out.act.cell 0
            have l1 := HM.out.act.cell 1
            have l2 := HM.out.act.cell 2
            have hla := HM.out.act.lt
            dsimp at l0 l1 l2
            go_wp2_with fail
            refine HW.out.mono ?_
            rintro e w5 ⟨A5, c5, x5, rfl, hO5⟩
            have hS5 : SgL w5 _ (.slice A5 s.outsO.1.length c5) s.outsO.1 := hO5.l
            obtain ⟨v1, v2, hM5⟩ := HM.out.real (s' := s.outsO.2) hO5.tie ⟨vo, vi, by rw [hO5.sam.out, hO5.sam.inn]; exact hO5.o, hO5.f.mono (fun k _ e => .inl e), fun k hk => .inl hk⟩
            have HM5 := Lib.hid hM5
            have HS5 := Lib.hid hS5
            clear hO5 hS5 hM5 l0 l1 l2 hla HW
            rw [hRL] at HS5 ⊢
            go_wp2_with fail
            refine (HRW.out _ _ _ _ _ _ _ HM5.out).mono ?_
            rintro e w6 ⟨A6, c6, rfl, hO6⟩
            have hS6 : SgL w6 _ (.slice A6 s.outsO.1.length c6) s.outsO.1 := hO6.l
            have hf6 := hO6.f
            obtain ⟨v3, v4, hM6⟩ := HM5.out.side (s' := s.outsO.2) ⟨_, _, by rw [hO6.sam.said, hO6.sam.got]; exact hO6.o, hO6.f.mono (fun k _ e => .inl e), fun k hk => .inl hk⟩
            have HM6 := Lib.hid hM6
            rw [hRL] at hS6 ⊢
            have hqlt : q < wr.heap.size + 1 := by have := HM.out.ltR q (.inl rfl); simpa using this
            have hd5 := (HS5.out.fr hf6 (fun k hk => by have hk : k = q := hk; have := HM.out.ltR q (.inl rfl); omega)).rd
            have hd6 := hS6.rd
            obtain ⟨_, hq5⟩ := HS5.out
            obtain ⟨rs5, er5, hr5, _⟩ := HS5.out
            obtain ⟨rs6, er6, hr6, _⟩ := hS6
            obtain ⟨_, _, z5, z5c, _⟩ := hr5.shape
            obtain ⟨_, _, z6, z6c, _⟩ := hr6.shape
            have hl5 : rs5.length = RL.length := by rw [← er5, List.length_map]
            have hl6 : rs6.length = RL.length := by rw [← er6, List.length_map]
            injection z5 with z51 z52 z53
            injection z6 with z61 z62 z63
            have HSS := Lib.hid (sameSegs_alike A5 A6 c5 c6 RL w6 hd5.2 hd6.2 (by rw [← hRL]; exact outs_small HOK.out (by have := hk200; omega)) (by omega) (by omega))
            clear hO6 hf6 hM6 HRW hd5 hd6 hq5 hr5 hr6 z5c z6c z51 z52 z53 z61 z62 z63 hl5 hl6 er5 er6 hqlt
            go_wp2_with fail
            refine HSS.out.mono ?_
            rintro e w7 ⟨rfl, hb7⟩
            have HM7 := Lib.hid (HM6.out.grow hb7)
            clear hb7
            go_wp2
            go_meet
            exact ⟨rfl, _, _, _, _, _, _, HM7.out, HOKN.out, HFNN.out⟩
        · as_aux_lemma =>
            have e0 : (kd == 0) = false := by simpa using y0
            have e1 : (kd == 1) = false := by simpa using y1
            have e2 : (kd == 2) = false := by simpa using y2
            have e3 : (kd == 3) = false := by simpa using y3
            have e4 : (kd == 4) = false := by simpa using y4
            clear y0 y1 y2 y3 y4
            have HOKF := Lib.hid (came_ok HOK.out HFN.out ⟨sq, ak, fl, wi, dat⟩ HF.out.seq HF.out.ack (n := n2) HF.out.dat.len HF.out.dat.2)
            have HMd := Lib.hid (HM.out.grow (Below.refl _ _).drew)
            have l3 := HM.out.act.cell 3
            have l4 := HM.out.act.cell 4
            have l5 := HM.out.act.cell 5
            have l6 := HM.out.act.cell 6
            have l7 := HM.out.act.cell 7
            have hla := HM.out.act.lt
            dsimp at l3 l4 l5 l6 l7
            have HC := Lib.hid (come_mid HMd.out HOK.out (by have := hk200; omega) ⟨sq, ak, fl, wi, dat⟩ HF.out.seq HF.out.ack A2 n2 c2 (HF.out.dat.below' HMd.out.bel (Nat.le_refl _)) HF.out.nc.1 HF.out.nc.2)
            obtain ⟨er, her⟩ : ∃ er, s.cameE (checkI (Sg.mk sq ak fl wi dat).flags (Sg.mk sq ak fl wi dat).window n2) = er := ⟨_, rfl⟩
            obtain ⟨S9, hS9⟩ : ∃ S9, (if checkI (Sg.mk sq ak fl wi dat).flags (Sg.mk sq ak fl wi dat).window n2 = 0 then s.cameS (Sg.mk sq ak fl wi dat) else s) = S9 := ⟨_, rfl⟩
            rw [hS9] at HOKF
            rw [her, hS9] at HC
            dsimp only at HC
            have HD0 := Lib.hid (fun W s1 x vo vi vp vj (hM : SMid w W g q s1 s x vo vi vp vj wr.heap.size #[.int .i64 kd, .int .i64 nn, .slice a mm cc, .int .u32 sq, .int .u32 ak, .int .i64 fl, .int .i64 wi, .slice A2 n2 c2]) => (show Calls Try.prog 53 #[.pointer (some ⟨q, 0, none⟩), .agg #[.int .u32 sq, .int .u32 ak, .int .i64 fl, .int .i64 wi, .slice A2 n2 c2]] W fun e' w' => ∃ u, e' = .returned u ∧ ComeN w g q s1 S9 wr.heap.size #[.int .i64 kd, .int .i64 nn, .slice a mm cc, .int .u32 sq, .int .u32 ak, .int .i64 fl, .int .i64 wi, .slice A2 n2 c2] er u w' from by
              have h9 := came_mid hM HOK.out (by have := hk200; omega) ⟨sq, ak, fl, wi, dat⟩ HF.out.seq HF.out.ack HF.out.flags HF.out.window A2 n2 c2 (HF.out.dat.below' hM.bel (Nat.le_refl _)) HF.out.nc.1 HF.out.nc.2
              rw [her, hS9] at h9
              exact h9))
            have HOKN := Lib.hid HOKF.out.1
            have HFNN := Lib.hid HOKF.out.2
            have HER := Lib.hid her
            clear her hS9 HOKF
            go_wp2_with fail
            go_region_held_law (fun w' => w'.cell? ⟨wr.heap.size, 3, none⟩ = some (.int .u32 sq) ∧ w'.cell? ⟨wr.heap.size, 4, none⟩ = some (.int .u32 ak) ∧ w'.cell? ⟨wr.heap.size, 5, none⟩ = some (.int .i64 fl) ∧ w'.cell? ⟨wr.heap.size, 6, none⟩ = some (.int .i64 wi) ∧ w'.cell? ⟨wr.heap.size, 7, none⟩ = some (.slice A2 n2 c2))
              (first
                | go_keep
                | (refine ⟨?_, ?_, ?_, ?_, ?_⟩
                   · assumption
                   · assumption
                   · assumption
                   · assumption
                   · assumption))
              (first
                | (refine step_call_go7 rfl 52 #[.tmp 69, .tmp 71] #[62, 25] rfl #[.pointer (some ⟨g, 0, none⟩), .agg #[.int .u32 sq, .int .u32 ak, .int .i64 fl, .int .i64 wi, .slice A2 n2 c2]] (by simp [Act.eval, Act.put]) (run52 _ _) _ HC.out ?_
                   rintro u5 w5 ⟨rfl, x5, v5, v6, hM5⟩
                   have m3 := hM5.act.cell 3
                   have m4 := hM5.act.cell 4
                   have m5 := hM5.act.cell 5
                   have m6 := hM5.act.cell 6
                   have m7 := hM5.act.cell 7
                   have mlt := hM5.act.lt
                   dsimp at m3 m4 m5 m6 m7
                   have HD := Lib.hid (HD0.out _ _ _ _ _ _ _ hM5)
                   clear hM5)
                | (refine step_call_go7 rfl 53 #[.tmp 73, .tmp 75] #[64, 25] rfl #[.pointer (some ⟨q, 0, none⟩), .agg #[.int .u32 sq, .int .u32 ak, .int .i64 fl, .int .i64 wi, .slice A2 n2 c2]] (by simp [Act.eval, Act.put]) (run53 _ _) _ HD.out ?_
                   rintro u6 w6 ⟨rfl, hM6⟩
                   have HM6 := Lib.hid hM6
                   obtain ⟨_, _, _, _, _, hM7⟩ := hM6
                   have n3 := hM7.act.cell 3
                   have n4 := hM7.act.cell 4
                   have n5 := hM7.act.cell 5
                   have n6 := hM7.act.cell 6
                   have n7 := hM7.act.cell 7
                   dsimp at n3 n4 n5 n6 n7
                   clear hM7))
            first
              | (rename_i hd
                 have hq := Option.some.inj (show some 76 = some _ from hd)
                 subst hq
                 go_wp2)
              | (go_wp2
                 rename_i hd
                 have hq := Option.some.inj (show some 76 = some _ from hd)
                 subst hq
                 dsimp only [List.set])
              | go_wp2
            go_meet
            obtain ⟨x9, a9, b9, c9, d9, hM9⟩ := HM6.out
            exact ⟨by first | (simp; done) | (simp [Act.eval, Act.put]; done) | (simp [getElem_set]; done) | (show Value.bool (_ == _) = _; simp), S9, x9, a9, b9, c9, d9, hM9, HOKN.out, HFNN.out⟩
      case rest =>
        obtain ⟨rfl, s', x', a', b', c', d', hM, hok', hfn'⟩ := hcut
        rename World => wx
        clear HM HF
        have HM := Lib.hid hM
        have HOK' := Lib.hid hok'
        have HFN' := Lib.hid hfn'
        have htt := tie_told hM.tie hok' (by omega)
        have hsd := hok'.said
        have hgt := hok'.got
        have hrdd := hok'.rd
        have htl := hok'.top_le (by omega)
        have hnt := hok'.nt
        have hun := hok'.un
        have HTE := Lib.hid (tell54 hM.e)
        have HEN := Lib.hid (fun W (hb : Below wx.heap.size wx W) => ended55 (hM.grow hb).e)
        have HTD := Lib.hid (fun W (hb : Below wx.heap.size wx W) => rtold (hM.grow hb).r (by omega) (by omega) (by omega) (by omega))
        rw [htt.1, htt.2.1, hM.tie.st] at HTE
        rw [htt.2.2, hM.tie.fin] at HEN
        unfold stToldV at HTD
        generalize (s'.said.length : Int) - s'.acked = p1 at *
        generalize (s'.got.length : Int) - s'.rd = p2 at *
        generalize s'.allB = p3 at *
        clear hM hok' hfn' htt hsd hgt hrdd htl hnt hun
        go_wp2_with fail
        refine HTE.out.mono ?_
        rintro e w7 ⟨rfl, hb7⟩
        have HB7 := Lib.hid hb7
        clear hb7 HTE
        go_wp2_with fail
        refine (HEN.out _ HB7.out).mono ?_
        rintro e w8 ⟨rfl, hb8⟩
        have HB8 := Lib.hid (HB7.out.trans (hb8.mono HB7.out.size))
        clear hb8 HEN HB7
        go_wp2_with fail
        refine (HTD.out _ HB8.out).mono ?_
        rintro e w9 ⟨rfl, hb9⟩
        have HB9 := Lib.hid (HB8.out.trans (hb9.mono HB8.out.size))
        clear hb9 HTD HB8
        have HM9 := Lib.hid (HM.out.grow HB9.out)
        generalize s'.st = p4 at *
        generalize s'.fin = p5 at *
        go_wp2
        go_roundw
        case rel => exact ⟨k + 1, by omega, by omega, by go_num, s', x', a', b', c', d', HM9.out.bo, HOK'.out, HFN'.out⟩
        case measure => simp [intOf]; omega
end Go.Proofs.Ythlhjaacjhlkhaa
