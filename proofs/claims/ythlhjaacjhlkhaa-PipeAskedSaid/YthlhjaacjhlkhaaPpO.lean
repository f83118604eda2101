/- The law ringlaw4.PipeAsked. -/
import Derived.Test.YthlhjaacjhlkhaaPpN
import Derived.Deep.RegionHeld3
import Derived.Deep.RegionHeldLaw
import Derived.Deep.CutBlock
import Derived.Deep.DeepCutAuto
namespace Go.Proofs.Ythlhjaacjhlkhaa
open Go.RowKit
set_option maxHeartbeats 600000
set_option linter.unusedVariables false
set_option linter.unusedSimpArgs false
def BoE' (W w : World) (g q0 : Nat) : Prop := ∃ F b v vL, Bo W w g q0 F b v vL
theorem start3 {w w1 w2 w3 : World} {g g2 : Nat} {F3 : Fs} (hr1 : Re w1 w.heap.size g F0 (fun _ => 0) (fun _ => .slice none 0 0)) (hb1 : Below w.heap.size w w1)
    (hr2 : Re w2 (w1.alloc (.cells #[.slice none 0 0] 45)).heap.size g2 F0 (fun _ => 0) (fun _ => .slice none 0 0)) (hb2 : Below (w1.alloc (.cells #[.slice none 0 0] 45)).heap.size (w1.alloc (.cells #[.slice none 0 0] 45)) w2)
    (hG : RGo w2 (w1.alloc (.cells #[.slice none 0 0] 45)).heap.size g2 F0 (fun _ => 0) (fun _ => .slice none 0 0) F3 w3) : BoE' w w3 g w1.heap.size := by
  obtain ⟨b', v', m, f, o⟩ := hG
  have ha : Below w1.heap.size w1 (w1.alloc (.cells #[.slice none 0 0] 45)) := (Below.refl _ w1).alloc (Nat.le_refl _) _
  have k1 := hb2.trans (f.below hb2.size hr2.lowF)
  exact ⟨_, _, _, _, (Bo.start (hr1.grow ha) (hb1.trans (ha.mono hb1.size)) (Blk.new w1 _ 45) hb1.size).grow k1⟩
theorem row_id {w : World} {B n : Nat} {A : Option Addr} {F : Fs} (h : Reads w B 1 A n ((allR F).map idv)) {j : Nat} (hj : j < (allR F).length) : ∃ b o, A = some ⟨b, o, none⟩ ∧ b < B ∧ w.cell? ⟨b, o + j, none⟩ = some (.int .i64 ((allR F).getD j Pr.zero).id) := by
  have hn : (allR F).length = n := by have := h.1; simpa using this
  obtain ⟨b, o, e, hb, hc⟩ := h.2 (by omega)
  refine ⟨b, o, e, hb, hc j _ ?_⟩
  rw [List.getElem?_map, List.getElem?_eq_getElem hj, List.getD_eq_getElem?_getD, List.getElem?_eq_getElem hj]
  rfl
theorem told_shape (F : Fs) (id : Int) : ∃ x1 x2 x3 x4 : Int, toldV F id = .tuple #[.int .i64 x1, .int .i64 x2, .int .i64 x3, .int .i64 x4] := by
  unfold toldV
  split
  · exact ⟨_, _, _, _, rfl⟩
  · exact ⟨_, _, _, _, rfl⟩
/-- A call of a Go function as one step of a region that draws its order. -/
theorem step_call_go {P : Program} {ops : Array Oper} {o : Oper} {a : Act} {w : World} {K : Act → World → Prop} {Q : Exit → Act → World → Prop} {E : Prop} (hgd : o.guard = none) (f : FuncId) (xs : Array Operand) (ats : Array TypeId)
    (ho : o.op = .call { callee := .value (.func f), args := xs, argTypes := ats }) (args : Array Value) (hargs : xs.map a.eval = args) (hrun : (callFunc f args).run P w = .ok (.enter f args) w) (Φ : Value → World → Prop)
    (hC : Calls P f args w fun e w' => ∃ v, e = .returned v ∧ Φ v w') (h : ∀ v w', Φ v w' → K (a.put o.dst v) w') : if Region.wanted o (yielded ops a.tmps) = true then Oper.wp P o a w K Q else E := by
  have hw : Region.wanted o (yielded ops a.tmps) = true := by simp [Region.wanted, hgd]
  rw [if_pos hw]
  unfold Oper.wp
  have e : execOp a.eval o = callFunc f args := by
    obtain ⟨dst, op, ty, pos, after, guard⟩ := o
    dsimp only at ho
    subst ho
    rw [execOp_call_go, hargs]
    simp
  rw [e, hrun, Oper.upon_enter]
  refine hC.mono ?_
  rintro e' w' ⟨v, rfl, hΦ⟩
  exact h v w' hΦ
theorem run27 (args : Array Value) (w : World) : (callFunc 27 args).run Try.prog w = .ok (.enter 27 args) w := by
  have h := Try.func27
  simp [callFunc, go_sem, h, Try.f27]
theorem run28 (args : Array Value) (w : World) : (callFunc 28 args).run Try.prog w = .ok (.enter 28 args) w := by
  have h := Try.func28
  simp [callFunc, go_sem, h, Try.f28]
theorem run29 (args : Array Value) (w : World) : (callFunc 29 args).run Try.prog w = .ok (.enter 29 args) w := by
  have h := Try.func29
  simp [callFunc, go_sem, h, Try.f29]
def TurnM (W : World) (g q0 : Nat) (F1 F : Fs) (vL : Value) (a8 : Nat) (cs : Array Value) (x : Int) (u : Value) (w' : World) : Prop := u = .int .i64 x ∧ ∃ b v, Mid W w' g q0 F1 F b v vL a8 cs
def TurnN (W : World) (g q0 : Nat) (a8 : Nat) (cs : Array Value) (x : Int) (u : Value) (w' : World) : Prop := u = .int .i64 x ∧ MidE W w' g q0 a8 cs
section
variable {W w : World} {g q0 a8 : Nat} {F : Fs} {b : Nat → Nat} {v : Nat → Value} {vL : Value} {cs : Array Value}
theorem more_mid (h : Mid W w g q0 F F b v vL a8 cs) (id e : Int) : Calls Try.prog 27 #[.pointer (some ⟨g, 0, none⟩), .int .i64 id, .int .i64 e] w fun e' w' => ∃ u, e' = .returned u ∧ TurnM W g q0 (turnF F id e 1) F vL a8 cs (turnE F id e 1) u w' :=
  (more_any h.re id e).mono (by rintro e' w' ⟨rfl, hG⟩; exact ⟨_, rfl, rfl, h.real hG⟩)
theorem less_mid (h : Mid W w g q0 F F b v vL a8 cs) (id e : Int) : Calls Try.prog 29 #[.pointer (some ⟨g, 0, none⟩), .int .i64 id, .int .i64 e] w fun e' w' => ∃ u, e' = .returned u ∧ TurnM W g q0 (turnF F id e (-1)) F vL a8 cs (turnE F id e (-1)) u w' :=
  (less_any h.re id e).mono (by rintro e' w' ⟨rfl, hG⟩; exact ⟨_, rfl, rfl, h.real hG⟩)
theorem turned_mid {id e by_ : Int} (h : Mid W w g q0 (turnF F id e by_) F b v vL a8 cs) (hby : by_ = 1 ∨ by_ = -1) : Calls Try.prog 28 #[.pointer (some ⟨q0, 0, none⟩), .int .i64 id, .int .i64 e, .int .i64 by_] w fun e' w' => ∃ u, e' = .returned u ∧ TurnN W g q0 a8 cs (turnE F id e by_) u w' :=
  (turned_any h.qe h.bel.size id e by_ hby).mono (by
    rintro e' w' ⟨rfl, hQ⟩
    obtain ⟨vL', hM⟩ := h.side hQ
    exact ⟨_, rfl, rfl, _, _, _, _, hM⟩)
end
set_option maxHeartbeats 4000000 in
set_option maxRecDepth 100000 in
theorem law_pipeAsked (A : Option Addr) (n c : Nat) (ps : List Pact) (w : World) (h : RPa w w.heap.size A n ps) (hn : n ≤ 9223372036854775807) :
    Calls Try.prog 6 #[.slice A n c] w fun e w' => e = .returned (.bool true) ∧ Below w.heap.size w w' := by
  have HH := Lib.hid h
  clear h
  go_enter Try.func6, Try.ntmps6
  go_wp2_with fail
  refine (new_any _).mono ?_
  rintro e w1 ⟨g, rfl, hr1, hb1⟩
  have HR1 := Lib.hid hr1
  have HB1 := Lib.hid hb1
  clear hr1 hb1
  go_wp2_with fail
  refine (new_any _).mono ?_
  rintro e w2 ⟨g2, rfl, hr2, hb2⟩
  have HR2 := Lib.hid hr2
  have HB2 := Lib.hid hb2
  clear hr2 hb2
  go_wp2_with fail
  refine (make_any HR2.out HB2.out.size).mono ?_
  rintro e w3 ⟨x, y, F3, rfl, hm, hG⟩
  obtain ⟨rfl, rfl⟩ := made_F0 hm
  have HBO : Hid (BoE' w w3 g w1.heap.size) := Lib.hid (start3 HR1.out HB1.out HR2.out HB2.out hG)
  clear hm hG HR1 HB1 HR2 HB2
  generalize w1.heap.size = q0 at *
  go_wp2
  go_loopw [47] (fun i wr => ∃ k : Nat, k ≤ n ∧ i = .int .i64 k ∧ BoE' w wr g q0) (fun i _ => n - (intOf i).toNat)
  case atStart => exact ⟨0, by omega, rfl, HBO.out⟩
  case round =>
    clear HBO
    obtain ⟨k, hk, rfl, F, b, v, vL, hbo⟩ := hrel
    have HBO := Lib.hid hbo
    have hB := hbo.bel.size
    clear hbo
    by_cases hlt : k < n
    rotate_left
    · obtain rfl : k = n := by omega
      clear hk hlt
      have HL := Lib.hid (list_any HBO.out.re)
      go_wp2_with fail
      refine HL.out.mono ?_
      rintro e w4 ⟨A4, n4, c4, rfl, hr4, hb4⟩
      have HB4 := Lib.hid (HBO.out.grow hb4)
      clear HL HBO hB hb4
      have hn4 : (allR F).length = n4 := by have := hr4.1; simpa using this
      have HR4 := Lib.hid hr4
      have hc4 := HB4.out.qe.ob.cell 0
      obtain ⟨A5, c5, rfl, hnc5, hcm5⟩ := HB4.out.qe.row.shape
      rw [hn4] at hc4
      dsimp at hc4
      have hl4 := HB4.out.qe.ob.lt
      have HN4 := Lib.hid hn4
      have h16 : n4 ≤ 16 := by rw [← hn4]; exact recs_len F 0 16
      clear hr4 hnc5 hcm5 hn4
      go_wp2
      go_loopw [205] (fun i wy => ∃ j : Nat, j ≤ n4 ∧ i = .int .i64 j ∧ Below w4.heap.size w4 wy) (fun i _ => n4 - (intOf i).toNat)
      case atStart => exact ⟨0, by omega, rfl, Below.refl _ _⟩
      case round =>
        obtain ⟨j, hj, rfl, hbw⟩ := hrel
        by_cases hjl : j < n4
        · obtain ⟨b5, o5, rfl, hb5, k0, k1, k2, k3⟩ := ((HB4.out.qe.rq).2.below' hbw (Nat.le_refl _)).at_ (k := j) (by rw [HN4.out]; exact hjl)
          obtain ⟨b6, o6, rfl, hb6, k4⟩ := row_id ((HR4.out.reads).below' hbw (Nat.le_refl _)) (j := j) (by rw [HN4.out]; exact hjl)
          generalize (allR F).getD j Pr.zero = x at *
          obtain ⟨xi, xr, xw, xs⟩ := x
          dsimp only at k0 k1 k2 k3 k4
          have hs5 := hbw.size
          have hb51 : b5 < wr.heap.size := by omega
          have hb61 : b6 < wr.heap.size := by omega
          have hb62 : b6 < wr.heap.size + 1 := by omega
          have hjn : (j : Int) < n4 := by omega
          have HBW := Lib.hid hbw
          clear hbw
          go_wp2_with fail
          refine wp_region_near (wr.heap.size + 1) (by kernel_rfl) (by kernel_rfl) ?_
          repeat (go_big_quiet_step (fail))
          refine wpQuiet_nil ?_
          intro wz hbz
          go_wp2
          go_roundw
          case rel => exact ⟨j + 1, by omega, by go_num, HBW.out.trans (((Below.refl _ wr).alloc (Nat.le_refl _) _ |>.trans (hbz.mono (by simp))).mono HBW.out.size)⟩
          case measure => simp [intOf]; omega
        · obtain rfl : j = n4 := by omega
          go_wp2
          go_ret
          exact ⟨rfl, HB4.out.bel.trans (hbw.mono HB4.out.bel.size)⟩
    have hfine : (ps.getD k .zero).Fine w w.heap.size := by
      obtain ⟨_, _, _, _, _, _, _, _, hf⟩ := HH.out.at_ hlt
      exact hf
    obtain ⟨bb, o, rfl, hbb, c0, c1, c2, c3, -⟩ := (HH.out.below' HBO.out.bel (Nat.le_refl _)).at_ hlt
    generalize ps.getD k .zero = p at *
    obtain ⟨kd, id, nn, a, m, cc, bs⟩ := p
    dsimp only at c0 c1 c2 c3
    have HF := Lib.hid hfine
    clear hfine
    have hkn : (k : Int) < n := by omega
    by_cases h300 : k < 300
    rotate_left
    · have d3 : decide (300 ≤ (k : Int)) = true := by simp; omega
      clear h300
      have HBO2 := Lib.hid (HBO.out.grow ((Below.refl _ wr).alloc (Nat.le_refl _) (.cells #[.int .i64 kd, .int .i64 id, .int .i64 nn, .slice a m cc] 49)))
      clear HF HBO hB
      have HL := Lib.hid (list_any HBO2.out.re)
      go_wp2_with fail
      refine HL.out.mono ?_
      rintro e w4 ⟨A4, n4, c4, rfl, hr4, hb4⟩
      have HB4 := Lib.hid (HBO2.out.grow hb4)
      clear HL HBO2 hb4
      have hn4 : (allR F).length = n4 := by have := hr4.1; simpa using this
      have HR4 := Lib.hid hr4
      have hc4 := HB4.out.qe.ob.cell 0
      obtain ⟨A5, c5, rfl, hnc5, hcm5⟩ := HB4.out.qe.row.shape
      rw [hn4] at hc4
      dsimp at hc4
      have hl4 := HB4.out.qe.ob.lt
      have HN4 := Lib.hid hn4
      have h16 : n4 ≤ 16 := by rw [← hn4]; exact recs_len F 0 16
      clear hr4 hnc5 hcm5 hn4
      go_wp2
      go_loopw [205] (fun i wy => ∃ j : Nat, j ≤ n4 ∧ i = .int .i64 j ∧ Below w4.heap.size w4 wy) (fun i _ => n4 - (intOf i).toNat)
      case atStart => exact ⟨0, by omega, rfl, Below.refl _ _⟩
      case round =>
        obtain ⟨j, hj, rfl, hbw⟩ := hrel
        by_cases hjl : j < n4
        · obtain ⟨b5, o5, rfl, hb5, k0, k1, k2, k3⟩ := ((HB4.out.qe.rq).2.below' hbw (Nat.le_refl _)).at_ (k := j) (by rw [HN4.out]; exact hjl)
          obtain ⟨b6, o6, rfl, hb6, k4⟩ := row_id ((HR4.out.reads).below' hbw (Nat.le_refl _)) (j := j) (by rw [HN4.out]; exact hjl)
          generalize (allR F).getD j Pr.zero = x at *
          obtain ⟨xi, xr, xw, xs⟩ := x
          dsimp only at k0 k1 k2 k3 k4
          have hs5 := hbw.size
          have hb51 : b5 < wr.heap.size := by omega
          have hb61 : b6 < wr.heap.size := by omega
          have hb62 : b6 < wr.heap.size + 1 := by omega
          have hjn : (j : Int) < n4 := by omega
          have HBW := Lib.hid hbw
          clear hbw
          go_wp2_with fail
          refine wp_region_near (wr.heap.size + 1) (by kernel_rfl) (by kernel_rfl) ?_
          repeat (go_big_quiet_step (fail))
          refine wpQuiet_nil ?_
          intro wz hbz
          go_wp2
          go_roundw
          case rel => exact ⟨j + 1, by omega, by go_num, HBW.out.trans (((Below.refl _ wr).alloc (Nat.le_refl _) _ |>.trans (hbz.mono (by simp))).mono HBW.out.size)⟩
          case measure => simp [intOf]; omega
        · obtain rfl : j = n4 := by omega
          go_wp2
          go_ret
          exact ⟨rfl, HB4.out.bel.trans (hbw.mono HB4.out.bel.size)⟩
    have d3 : decide (300 ≤ (k : Int)) = false := by simp; omega
    clear h300
    have HM := Lib.hid (Mid.lay HBO.out #[.int .i64 kd, .int .i64 id, .int .i64 nn, .slice a m cc])
    clear HBO
    go_upto_block 2 with fail
    go_cut [9] (fun s9 wx => s9 = .bool true ∧ MidE w wx g q0 wr.heap.size #[.int .i64 kd, .int .i64 id, .int .i64 nn, .slice a m cc])
    case first =>
      by_cases y0 : kd = 0
      · as_aux_lemma =>
          have e1 : (kd == 0) = true := by simpa using y0
          clear y0
          go_wp2_with fail
          refine (make_any HM.out.re HM.out.bel.size).mono ?_
          rintro e w5 ⟨x, y, F5, rfl, hm, hG⟩
          obtain ⟨b5, v5, hM5⟩ := HM.out.real hG
          have HM5 := Lib.hid hM5
          have HME := Lib.hid hm
          clear hm hG hM5
          go_wp2_with fail
          refine (made_any HM5.out.qe HM5.out.bel.size).mono ?_
          rintro e w6 ⟨x', y', F6, rfl, hm', hQ⟩
          obtain ⟨rfl, rfl, rfl⟩ := madeE_func HME.out hm'
          obtain ⟨vL6, hM6⟩ := HM5.out.side hQ
          have HM6 := Lib.hid hM6
          clear hm' hQ hM6
          go_wp2
          go_meet
          exact ⟨rfl, _, _, _, _, HM6.out⟩
      by_cases y1 : kd = 1
      · as_aux_lemma =>
          have e1 : (kd == 0) = false := by simpa using y0
          have e2 : (kd == 1) = true := by simpa using y1
          clear y0 y1
          have HMd := Lib.hid (HM.out.grow (Below.refl _ _).drew)
          have hl1 := HM.out.act.cell 1
          have hl2 := HM.out.act.cell 2
          have HC := Lib.hid (more_mid HMd.out id nn)
          dsimp at hl1 hl2
          go_wp2_with fail
          go_region_held_law (fun w' => w'.cell? ⟨wr.heap.size, 1, none⟩ = some (.int .i64 id) ∧ w'.cell? ⟨wr.heap.size, 2, none⟩ = some (.int .i64 nn))
            (first
              | go_keep
              | (refine ⟨?_, ?_⟩
                 · assumption
                 · assumption))
            (first
              | (refine step_call_go rfl 27 #[.tmp 102, .tmp 104, .tmp 106] #[42, 3, 3] rfl #[.pointer (some ⟨g, 0, none⟩), .int .i64 id, .int .i64 nn] (by simp [Act.eval, Act.put]) (run27 _ _) _ HC.out ?_
                 rintro u5 w5 ⟨rfl, b5, v5, hM5⟩
                 have m1 := hM5.act.cell 1
                 have m2 := hM5.act.cell 2
                 have m3 := hM5.act.lt
                 dsimp at m1 m2
                 have HD := Lib.hid (turned_mid hM5 (.inl rfl))
                 clear hM5)
              | (refine step_call_go rfl 28 #[.tmp 4, .tmp 109, .tmp 111, .const (.int .i64 1)] #[45, 3, 3, 3] rfl #[.pointer (some ⟨q0, 0, none⟩), .int .i64 id, .int .i64 nn, .int .i64 1] (by simp [Act.eval, Act.put]) (run28 _ _) _ HD.out ?_
                 rintro u6 w6 ⟨rfl, hM6⟩
                 have HM6 := Lib.hid hM6
                 obtain ⟨_, _, _, _, hM7⟩ := hM6
                 have n1 := hM7.act.cell 1
                 have n2 := hM7.act.cell 2
                 dsimp at n1 n2
                 clear hM7))
          first
            | (rename_i hd
               have hq := Option.some.inj (show some 112 = some _ from hd)
               subst hq
               go_wp2)
            | (go_wp2
               rename_i hd
               have hq := Option.some.inj (show some 112 = some _ from hd)
               subst hq
               dsimp only [List.set])
          go_meet
          exact ⟨by first | (simp; done) | (simp [Act.eval, Act.put]; done) | (simp [getElem_set]; done) | (show Value.bool (_ == _) = _; simp), HM6.out⟩
      by_cases y2 : kd = 2
      · as_aux_lemma =>
          have e1 : (kd == 0) = false := by simpa using y0
          have e2 : (kd == 1) = false := by simpa using y1
          have e3 : (kd == 2) = true := by simpa using y2
          clear y0 y1 y2
          have HMd := Lib.hid (HM.out.grow (Below.refl _ _).drew)
          have hl1 := HM.out.act.cell 1
          have hl2 := HM.out.act.cell 2
          have HC := Lib.hid (less_mid HMd.out id nn)
          dsimp at hl1 hl2
          go_wp2_with fail
          go_region_held_law (fun w' => w'.cell? ⟨wr.heap.size, 1, none⟩ = some (.int .i64 id) ∧ w'.cell? ⟨wr.heap.size, 2, none⟩ = some (.int .i64 nn))
            (first
              | go_keep
              | (refine ⟨?_, ?_⟩
                 · assumption
                 · assumption))
            (first
              | (refine step_call_go rfl 29 #[.tmp 116, .tmp 118, .tmp 120] #[42, 3, 3] rfl #[.pointer (some ⟨g, 0, none⟩), .int .i64 id, .int .i64 nn] (by simp [Act.eval, Act.put]) (run29 _ _) _ HC.out ?_
                 rintro u5 w5 ⟨rfl, b5, v5, hM5⟩
                 have m1 := hM5.act.cell 1
                 have m2 := hM5.act.cell 2
                 have m3 := hM5.act.lt
                 dsimp at m1 m2
                 have HD := Lib.hid (turned_mid hM5 (.inr rfl))
                 clear hM5)
              | (refine step_call_go rfl 28 #[.tmp 4, .tmp 123, .tmp 125, .const (.int .i64 (-1))] #[45, 3, 3, 3] rfl #[.pointer (some ⟨q0, 0, none⟩), .int .i64 id, .int .i64 nn, .int .i64 (-1)] (by simp [Act.eval, Act.put]) (run28 _ _) _ HD.out ?_
                 rintro u6 w6 ⟨rfl, hM6⟩
                 have HM6 := Lib.hid hM6
                 obtain ⟨_, _, _, _, hM7⟩ := hM6
                 have n1 := hM7.act.cell 1
                 have n2 := hM7.act.cell 2
                 dsimp at n1 n2
                 clear hM7))
          first
            | (rename_i hd
               have hq := Option.some.inj (show some 126 = some _ from hd)
               subst hq
               go_wp2)
            | (go_wp2
               rename_i hd
               have hq := Option.some.inj (show some 126 = some _ from hd)
               subst hq
               dsimp only [List.set])
          go_meet
          exact ⟨by first | (simp; done) | (simp [Act.eval, Act.put]; done) | (simp [getElem_set]; done) | (show Value.bool (_ == _) = _; simp), HM6.out⟩
      by_cases y3 : kd = 3
      · as_aux_lemma =>
          have e1 : (kd == 0) = false := by simpa using y0
          have e2 : (kd == 1) = false := by simpa using y1
          have e3 : (kd == 2) = false := by simpa using y2
          have e4 : (kd == 3) = true := by simpa using y3
          clear y0 y1 y2 y3
          go_wp2_with fail
          refine (read_any HM.out.re HM.out.bel.size id nn).mono ?_
          rintro e w5 ⟨A1, m1, cc1, rfl, hr1, hby, hG⟩
          obtain ⟨b5, v5, hM5⟩ := HM.out.real hG
          have HM5 := Lib.hid hM5
          have HR1 := Lib.hid hr1
          have HBY := Lib.hid hby
          have l1 := hM5.act.cell 1
          have l2 := hM5.act.cell 2
          have hla := hM5.act.lt
          dsimp at l1 l2
          clear hG hM5 hr1 hby
          go_wp2_with fail
          refine (got_any HM5.out.qe HM5.out.bel.size id nn).mono ?_
          rintro e w6 ⟨A2, m2, cc2, rfl, hr2, hQ⟩
          obtain ⟨vL6, hM6⟩ := HM5.out.side hQ
          have HM6 := Lib.hid hM6
          obtain ⟨v9, m9, f9, o9⟩ := hQ
          have HS := Lib.hid (sameBytes_pp A1 A2 m1 cc1 m2 cc2 _ _ w6 _ _ (row_rb (HR1.out.fr f9 (fun k hk hq => by have := (HR1.out.lt k hk).1; have := HM.out.qe.ltF k hq; omega)) HBY.out) hr2)
          rw [show decide (readO F id nn = readO F id nn) = true by simp] at HS
          clear m9 f9 o9 hM6 l1 l2 hr2
          go_wp2_with fail
          refine HS.out.mono ?_
          rintro e w7 ⟨rfl, rfl⟩
          go_wp2
          go_meet
          exact ⟨rfl, _, _, _, _, HM6.out⟩
      · as_aux_lemma =>
          have e1 : (kd == 0) = false := by simpa using y0
          have e2 : (kd == 1) = false := by simpa using y1
          have e3 : (kd == 2) = false := by simpa using y2
          have e4 : (kd == 3) = false := by simpa using y3
          clear y0 y1 y2 y3
          obtain ⟨hx1, hx2, hx3⟩ := HF.out
          dsimp only at hx1 hx2 hx3
          have HX1 := Lib.hid hx1
          have HX2 := Lib.hid hx2
          have HX3 := Lib.hid hx3
          clear hx1 hx2 hx3
          go_wp2_with fail
          refine (write_any HM.out.re HM.out.bel.size id a m cc bs w.heap.size (HX1.out.below' HM.out.bel (Nat.le_refl _)) HX2.out HX3.out).mono ?_
          rintro e w5 ⟨rfl, hG⟩
          obtain ⟨b5, v5, hM5⟩ := HM.out.real hG
          have HM5 := Lib.hid hM5
          have l1 := hM5.act.cell 1
          have l3 := hM5.act.cell 3
          have hla := hM5.act.lt
          dsimp at l1 l3
          clear hG hM5
          go_wp2_with fail
          refine (given_any HM5.out.qe HM5.out.bel.size id a m cc bs (HX1.out.below' HM5.out.bel (Nat.le_refl _)) HX2.out HX3.out).mono ?_
          rintro e w6 ⟨rfl, hQ⟩
          obtain ⟨vL6, hM6⟩ := HM5.out.side hQ
          have HM6 := Lib.hid hM6
          clear hQ hM6 l1 l3
          go_wp2
          go_meet
          exact ⟨rfl, _, _, _, _, HM6.out⟩
    case rest =>
      obtain ⟨rfl, F, b, v, vL, hM⟩ := hcut
      clear HM HF
      have l1 := hM.act.cell 1
      have hla := hM.act.lt
      dsimp at l1
      have HM := Lib.hid hM
      have HT := Lib.hid (tell_any hM.re id)
      obtain ⟨x1, x2, x3, x4, hto⟩ := told_shape F id
      rw [hto] at HT
      have HTO := Lib.hid hto
      clear hM hto
      go_wp2_with fail
      refine HT.out.mono ?_
      rintro e w7 ⟨rfl, hb7⟩
      have HM7 := Lib.hid (HM.out.grow hb7)
      clear HM HT l1 hb7
      have l1 := HM7.out.act.cell 1
      have hla := HM7.out.act.lt
      dsimp at l1
      have hc7 := HM7.out.qe.ob.cell 0
      have hlq := HM7.out.qe.ob.lt
      obtain ⟨A5, c5, rfl, -, -⟩ := HM7.out.qe.row.shape
      dsimp at hc7
      have HTD := Lib.hid (told_any w7 w7.heap.size A5 _ c5 F id (HM7.out.qe.rq).2 (Nat.le_refl _))
      rw [HTO.out] at HTD
      go_wp2_with fail
      refine HTD.out.mono ?_
      rintro e w8 ⟨rfl, hb8⟩
      have HM8 := Lib.hid (HM7.out.grow hb8)
      clear HM7 HTD l1 hc7 hb8
      go_wp2
      go_roundw
      case rel => exact ⟨k + 1, by omega, by go_num, F, b, v, _, HM8.out.bo⟩
      case measure => simp [intOf]; omega
end Go.Proofs.Ythlhjaacjhlkhaa
