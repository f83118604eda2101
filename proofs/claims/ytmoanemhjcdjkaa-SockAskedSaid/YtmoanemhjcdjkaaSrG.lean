/- The law ringlaw4.SockAsked. -/
import Derived.Test.YtmoanemhjcdjkaaSrF
import Derived.Test.YtmoanemhjcdjkaaSrH
import Derived.Deep.RegionHeld3
import Derived.Deep.RegionHeldLaw
import Derived.Deep.CutBlock
import Derived.Deep.DeepCutAuto
namespace Go.Proofs.Ytmoanemhjcdjkaa
open Go.RowKit Go.Maps
set_option maxHeartbeats 600000
set_option linter.unusedVariables false
set_option linter.unusedSimpArgs false
theorem MidE.up {W w : World} {g b a8 : Nat} {cs : Array Value} {m m' : Nat} (h : MidE W w g b a8 cs m) (hm : m ≤ m') : MidE W w g b a8 cs m' := by
  obtain ⟨F, L, M, n, hn, h⟩ := h
  exact ⟨F, L, M, n, Nat.le_trans hn hm, h⟩
set_option maxHeartbeats 4000000 in
set_option maxRecDepth 100000 in
theorem law_sockAsked (A : Option Addr) (n c : Nat) (ps : List Pact) (w : World) (h : RPa w w.heap.size A n ps) (hn : n ≤ 9223372036854775807) :
    Calls Try.prog 3 #[.slice A n c] w fun e w' => e = .returned (.bool true) ∧ Below w.heap.size w w' := by
  have HH := Lib.hid h
  have hmm := @run_makeMap Try.prog
  clear h
  go_enter Try.func3, Try.ntmps3
  go_wp2_with fail
  refine (new_any _).mono ?_
  rintro e w1 ⟨g, rfl, hr1, hb1⟩
  have HR1 := Lib.hid hr1
  have HB1 := Lib.hid hb1
  clear hr1 hb1
  go_wp2_with fail
  refine (new_any _).mono ?_
  rintro e w2 ⟨g2, rfl, hr2, hb2⟩
  have HR2 := Lib.hid hr2
  have HB2 := Lib.hid hb2
  clear hr2 hb2
  go_wp2_with fail
  refine (make_any HR2.out HB2.out.size).mono ?_
  rintro e w3 ⟨x, y, F3, rfl, hm, hG⟩
  obtain ⟨rfl, rfl⟩ := made_F0 hm
  have HBO : Hid (BoE w w3 g w1.heap.size 0) := Lib.hid (start3 HR1.out HB1.out HR2.out HB2.out hG)
  clear hm hG HR1 HB1 HR2 HB2
  generalize w1.heap.size = b at *
  go_wp2
  go_loopw [52] (fun i wr => ∃ k : Nat, k ≤ n ∧ k ≤ 300 ∧ i = .int .i64 k ∧ BoE w wr g b k) (fun i _ => n - (intOf i).toNat)
  case atStart => exact ⟨0, by omega, by omega, rfl, HBO.out⟩
  case round =>
    clear HBO hmm
    obtain ⟨k, hk, hk300, rfl, F, L, M, nm, hnm, hbo⟩ := hrel
    have HBO := Lib.hid hbo
    have hB := hbo.bel.size
    clear hbo
    by_cases hlt : k < n
    rotate_left
    · obtain rfl : k = n := by omega
      clear hk hlt
      have HL := Lib.hid (list_any HBO.out.re)
      go_wp2_with fail
      refine HL.out.mono ?_
      rintro e w4 ⟨A4, n4, c4, rfl, hn4, hr4, hb4⟩
      have HB4 := Lib.hid (HBO.out.grow hb4)
      have HR4 := Lib.hid hr4
      have HN4 := Lib.hid hn4
      have HL5 := Lib.hid (rlist_any HB4.out.rr)
      clear HL HBO hb4 hr4 hn4
      go_wp2_with fail
      refine HL5.out.mono ?_
      rintro e w5 ⟨A5, n5, c5, rfl, hn5, hr5, hb5⟩
      obtain rfl : n5 = n4 := hn5.trans HN4.out.symm
      have HB5 := Lib.hid (HB4.out.grow hb5)
      have HR5 := Lib.hid hr5
      have HR6 := Lib.hid (HR4.out.grow hb5)
      have h16 : n5 ≤ 16 := by have := idsN_len F 16; rw [ids_eq] at this; rw [hn5]; exact this
      clear HB4 HL5 hb5 hr5 hn5 HR4
      go_wp2_with fail
      go_loopw [278] (fun i wy => ∃ j : Nat, j ≤ n5 ∧ i = .int .i64 j ∧ Below w5.heap.size w5 wy) (fun i _ => n5 - (intOf i).toNat)
      case atStart => exact ⟨0, by omega, rfl, Below.refl _ _⟩
      case round =>
        obtain ⟨j, hj, rfl, hbw⟩ := hrel
        by_cases hjl : j < n5
        · obtain ⟨b5, o5, rfl, hb5, k0⟩ := (RD.of_row (HR5.out.grow hbw)).at_ hjl
          obtain ⟨b6, o6, rfl, hb6, k4⟩ := (RD.of_row (HR6.out.grow hbw)).at_ hjl
          generalize (ids F).getD j 0 = x at *
          have hjn : (j : Int) < n5 := by omega
          have HBW := Lib.hid hbw
          clear hbw
          go_wp2_with fail
          refine wp_region_near wr.heap.size (by kernel_rfl) (by kernel_rfl) ?_
          repeat (go_big_quiet_step (fail))
          refine wpQuiet_nil ?_
          intro wz hbz
          go_wp2
          go_roundw
          case rel => exact ⟨j + 1, by omega, by go_num, HBW.out.trans (hbz.mono HBW.out.size)⟩
          case measure => simp [intOf]; omega
        · obtain rfl : j = n5 := by omega
          go_wp2
          go_ret
          exact ⟨rfl, HB5.out.bel.trans (hbw.mono HB5.out.bel.size)⟩
    have hfine : (ps.getD k .zero).Fine w w.heap.size := by
      obtain ⟨_, _, _, _, _, _, _, _, hf⟩ := HH.out.at_ hlt
      exact hf
    obtain ⟨bb, o, rfl, hbb, c0, c1, c2, c3, -⟩ := (HH.out.below' HBO.out.bel (Nat.le_refl _)).at_ hlt
    generalize ps.getD k .zero = p at *
    obtain ⟨kd, id, nn, a, m, cc, bs⟩ := p
    dsimp only at c0 c1 c2 c3
    have HF := Lib.hid hfine
    clear hfine
    have hkn : (k : Int) < n := by omega
    by_cases h300 : k < 300
    rotate_left
    · have d3 : decide (300 ≤ (k : Int)) = true := by simp; omega
      clear h300
      have HBO2 := Lib.hid (HBO.out.grow ((Below.refl _ wr).alloc (Nat.le_refl _) (.cells #[.int .i64 kd, .int .i64 id, .int .i64 nn, .slice a m cc] 32)))
      clear HF HBO hB
      have HL := Lib.hid (list_any HBO2.out.re)
      go_wp2_with fail
      refine HL.out.mono ?_
      rintro e w4 ⟨A4, n4, c4, rfl, hn4, hr4, hb4⟩
      have HB4 := Lib.hid (HBO2.out.grow hb4)
      have HR4 := Lib.hid hr4
      have HN4 := Lib.hid hn4
      have HL5 := Lib.hid (rlist_any HB4.out.rr)
      clear HL HBO2 hb4 hr4 hn4
      go_wp2_with fail
      refine HL5.out.mono ?_
      rintro e w5 ⟨A5, n5, c5, rfl, hn5, hr5, hb5⟩
      obtain rfl : n5 = n4 := hn5.trans HN4.out.symm
      have HB5 := Lib.hid (HB4.out.grow hb5)
      have HR5 := Lib.hid hr5
      have HR6 := Lib.hid (HR4.out.grow hb5)
      have h16 : n5 ≤ 16 := by have := idsN_len F 16; rw [ids_eq] at this; rw [hn5]; exact this
      clear HB4 HL5 hb5 hr5 hn5 HR4
      go_wp2_with fail
      go_loopw [278] (fun i wy => ∃ j : Nat, j ≤ n5 ∧ i = .int .i64 j ∧ Below w5.heap.size w5 wy) (fun i _ => n5 - (intOf i).toNat)
      case atStart => exact ⟨0, by omega, rfl, Below.refl _ _⟩
      case round =>
        obtain ⟨j, hj, rfl, hbw⟩ := hrel
        by_cases hjl : j < n5
        · obtain ⟨b5, o5, rfl, hb5, k0⟩ := (RD.of_row (HR5.out.grow hbw)).at_ hjl
          obtain ⟨b6, o6, rfl, hb6, k4⟩ := (RD.of_row (HR6.out.grow hbw)).at_ hjl
          generalize (ids F).getD j 0 = x at *
          have hjn : (j : Int) < n5 := by omega
          have HBW := Lib.hid hbw
          clear hbw
          go_wp2_with fail
          refine wp_region_near wr.heap.size (by kernel_rfl) (by kernel_rfl) ?_
          repeat (go_big_quiet_step (fail))
          refine wpQuiet_nil ?_
          intro wz hbz
          go_wp2
          go_roundw
          case rel => exact ⟨j + 1, by omega, by go_num, HBW.out.trans (hbz.mono HBW.out.size)⟩
          case measure => simp [intOf]; omega
        · obtain rfl : j = n5 := by omega
          go_wp2
          go_ret
          exact ⟨rfl, HB5.out.bel.trans (hbw.mono HB5.out.bel.size)⟩
    have d3 : decide (300 ≤ (k : Int)) = false := by simp; omega
    have HM := Lib.hid (Mid.lay HBO.out #[.int .i64 kd, .int .i64 id, .int .i64 nn, .slice a m cc])
    clear HBO
    go_upto_block 2 with fail
    go_cut [9] (fun s9 wx => s9 = .bool true ∧ MidE w wx g b wr.heap.size #[.int .i64 kd, .int .i64 id, .int .i64 nn, .slice a m cc] (k + 1))
    case first =>
      by_cases y0 : kd = 0
      · as_aux_lemma =>
          have e0 : (kd == 0) = true := by simpa using y0
          clear y0
          have hl1 := HM.out.act.cell 1
          dsimp at hl1
          have HID := Lib.hid HF.out.2
          go_wp2_with fail
          refine (make_any HM.out.re HM.out.bel.size).mono ?_
          rintro e w5 ⟨x, y, F5, rfl, hm, hG⟩
          obtain ⟨L5, hM5⟩ := HM.out.real (HM.out.i1.made hm) hG
          have HM5 := Lib.hid hM5
          have HME := Lib.hid hm
          have hla := hM5.act.lt
          clear hm hG hM5 hl1
          go_wp2_with fail
          refine (rmade_any HM5.out.rr HM5.out.bel.size (by unfold maxLen; omega)).mono ?_
          rintro e w6 ⟨x', y', F6, rfl, hm', hQ⟩
          obtain ⟨rfl, rfl, rfl⟩ := three_eq (madeR_fn HME.out) (madeR_fn hm')
          obtain ⟨n6, M6, hn6, hM6⟩ := HM5.out.side hQ
          have HM6 : Hid (MidE w w6 g b wr.heap.size #[.int .i64 kd, .int .i64 id, .int .i64 nn, .slice a m cc] (k + 1)) := Lib.hid ⟨_, _, _, _, by omega, hM6⟩
          clear hm' hQ hM6
          go_wp2
          go_meet
          exact ⟨rfl, HM6.out⟩
      by_cases y1 : kd = 1
      · as_aux_lemma =>
          have e0 : (kd == 0) = false := by simpa using y0
          have e1 : (kd == 1) = true := by simpa using y1
          clear y0 y1
          have HMd := Lib.hid (HM.out.grow (Below.refl _ _).drew)
          have hl1 := HM.out.act.cell 1
          have hl2 := HM.out.act.cell 2
          have HC := Lib.hid (mid_real HMd.out (R := NameR F id nn) (fun x F' hr => HMd.out.i1.nme hr) (name_any HMd.out.re id nn))
          dsimp at hl1 hl2
          have HID := Lib.hid HF.out.2
          go_wp2_with fail
          go_region_held_law (fun w' => w'.cell? ⟨wr.heap.size, 1, none⟩ = some (.int .i64 id) ∧ w'.cell? ⟨wr.heap.size, 2, none⟩ = some (.int .i64 nn))
            (first
              | go_keep
              | (refine ⟨?_, ?_⟩
                 · assumption
                 · assumption))
            (first
              | (refine step_call_go rfl 7 #[.tmp 92, .tmp 94, .tmp 96] #[23, 3, 3] rfl #[.pointer (some ⟨g, 0, none⟩), .int .i64 id, .int .i64 nn] (by simp [Act.eval, Act.put]) (run7 _ _) _ HC.out ?_
                 rintro u5 w5 ⟨x5, F5, L5, rfl, hr5, hM5⟩
                 have m1 := hM5.act.cell 1
                 have m2 := hM5.act.cell 2
                 have m3 := hM5.act.lt
                 dsimp at m1 m2
                 have HD := Lib.hid (mid_side hM5 (R := NameR F id nn) (x := x5) (fun y F' hr => two_eq hr.fn hr5.fn) (rname_any hM5.rr id nn HID.out))
                 clear hM5 hr5)
              | (refine step_call_go rfl 8 #[.tmp 98, .tmp 100, .tmp 102] #[26, 3, 3] rfl #[.map (some b), .int .i64 id, .int .i64 nn] (by simp [Act.eval, Act.put]) (run8 _ _) _ HD.out ?_
                 rintro u6 w6 ⟨rfl, hM6⟩
                 have HM6 := Lib.hid hM6
                 obtain ⟨_, _, _, _, _, hM7⟩ := hM6
                 have n1 := hM7.act.cell 1
                 have n2 := hM7.act.cell 2
                 dsimp at n1 n2
                 clear hM7))
          first
            | (rename_i hd
               have hq := Option.some.inj (show some 103 = some _ from hd)
               subst hq
               go_wp2)
            | (go_wp2
               rename_i hd
               have hq := Option.some.inj (show some 103 = some _ from hd)
               subst hq
               dsimp only [List.set])
          go_meet
          exact ⟨by first | (simp; done) | (simp [Act.eval, Act.put]; done) | (simp [getElem_set]; done) | (show Value.bool (_ == _) = _; simp), MidE.up HM6.out (by omega)⟩
      by_cases y2 : kd = 2
      · as_aux_lemma =>
          have e0 : (kd == 0) = false := by simpa using y0
          have e1 : (kd == 1) = false := by simpa using y1
          have e2 : (kd == 2) = true := by simpa using y2
          clear y0 y1 y2
          have HMd := Lib.hid (HM.out.grow (Below.refl _ _).drew)
          have hl1 := HM.out.act.cell 1
          have hl2 := HM.out.act.cell 2
          have HC := Lib.hid (mid_real HMd.out (R := HearR F id nn) (fun x F' hr => HMd.out.i1.hear hr) (hear_any HMd.out.re HMd.out.i1 id nn))
          dsimp at hl1 hl2
          have HID := Lib.hid HF.out.2
          go_wp2_with fail
          go_region_held_law (fun w' => w'.cell? ⟨wr.heap.size, 1, none⟩ = some (.int .i64 id) ∧ w'.cell? ⟨wr.heap.size, 2, none⟩ = some (.int .i64 nn))
            (first
              | go_keep
              | (refine ⟨?_, ?_⟩
                 · assumption
                 · assumption))
            (first
              | (refine step_call_go rfl 9 #[.tmp 107, .tmp 109, .tmp 111] #[23, 3, 3] rfl #[.pointer (some ⟨g, 0, none⟩), .int .i64 id, .int .i64 nn] (by simp [Act.eval, Act.put]) (run9 _ _) _ HC.out ?_
                 rintro u5 w5 ⟨x5, F5, L5, rfl, hr5, hM5⟩
                 have m1 := hM5.act.cell 1
                 have m2 := hM5.act.cell 2
                 have m3 := hM5.act.lt
                 dsimp at m1 m2
                 have HD := Lib.hid (mid_side hM5 (R := HearR F id nn) (x := x5) (fun y F' hr => two_eq hr.fn hr5.fn) (rhear_any hM5.rr hM5.i2 id nn HID.out))
                 clear hM5 hr5)
              | (refine step_call_go rfl 10 #[.tmp 113, .tmp 115, .tmp 117] #[26, 3, 3] rfl #[.map (some b), .int .i64 id, .int .i64 nn] (by simp [Act.eval, Act.put]) (run10 _ _) _ HD.out ?_
                 rintro u6 w6 ⟨rfl, hM6⟩
                 have HM6 := Lib.hid hM6
                 obtain ⟨_, _, _, _, _, hM7⟩ := hM6
                 have n1 := hM7.act.cell 1
                 have n2 := hM7.act.cell 2
                 dsimp at n1 n2
                 clear hM7))
          first
            | (rename_i hd
               have hq := Option.some.inj (show some 118 = some _ from hd)
               subst hq
               go_wp2)
            | (go_wp2
               rename_i hd
               have hq := Option.some.inj (show some 118 = some _ from hd)
               subst hq
               dsimp only [List.set])
          go_meet
          exact ⟨by first | (simp; done) | (simp [Act.eval, Act.put]; done) | (simp [getElem_set]; done) | (show Value.bool (_ == _) = _; simp), MidE.up HM6.out (by omega)⟩
      by_cases y3 : kd = 3
      · as_aux_lemma =>
          have e0 : (kd == 0) = false := by simpa using y0
          have e1 : (kd == 1) = false := by simpa using y1
          have e2 : (kd == 2) = false := by simpa using y2
          have e3 : (kd == 3) = true := by simpa using y3
          clear y0 y1 y2 y3
          have HMd := Lib.hid (HM.out.grow (Below.refl _ _).drew)
          have hl1 := HM.out.act.cell 1
          have hl2 := HM.out.act.cell 2
          have HC := Lib.hid (mid_real HMd.out (R := ReachR F id nn) (fun x F' hr => HMd.out.i1.rch hr) (reach_any HMd.out.re HMd.out.i1 HMd.out.bel.size id nn))
          dsimp at hl1 hl2
          have HID := Lib.hid HF.out.2
          go_wp2_with fail
          go_region_held_law (fun w' => w'.cell? ⟨wr.heap.size, 1, none⟩ = some (.int .i64 id) ∧ w'.cell? ⟨wr.heap.size, 2, none⟩ = some (.int .i64 nn))
            (first
              | go_keep
              | (refine ⟨?_, ?_⟩
                 · assumption
                 · assumption))
            (first
              | (refine step_call_go rfl 11 #[.tmp 122, .tmp 124, .tmp 126] #[23, 3, 3] rfl #[.pointer (some ⟨g, 0, none⟩), .int .i64 id, .int .i64 nn] (by simp [Act.eval, Act.put]) (run11 _ _) _ HC.out ?_
                 rintro u5 w5 ⟨x5, F5, L5, rfl, hr5, hM5⟩
                 have m1 := hM5.act.cell 1
                 have m2 := hM5.act.cell 2
                 have m3 := hM5.act.lt
                 dsimp at m1 m2
                 have HD := Lib.hid (mid_side hM5 (R := ReachR F id nn) (x := x5) (fun y F' hr => two_eq hr.fn hr5.fn) (rreach_any hM5.rr hM5.bel.size (by unfold maxLen; omega) id nn HID.out))
                 clear hM5 hr5)
              | (refine step_call_go rfl 12 #[.tmp 128, .tmp 130, .tmp 132] #[26, 3, 3] rfl #[.map (some b), .int .i64 id, .int .i64 nn] (by simp [Act.eval, Act.put]) (run12 _ _) _ HD.out ?_
                 rintro u6 w6 ⟨rfl, hM6⟩
                 have HM6 := Lib.hid hM6
                 obtain ⟨_, _, _, _, _, hM7⟩ := hM6
                 have n1 := hM7.act.cell 1
                 have n2 := hM7.act.cell 2
                 dsimp at n1 n2
                 clear hM7))
          first
            | (rename_i hd
               have hq := Option.some.inj (show some 133 = some _ from hd)
               subst hq
               go_wp2)
            | (go_wp2
               rename_i hd
               have hq := Option.some.inj (show some 133 = some _ from hd)
               subst hq
               dsimp only [List.set])
          go_meet
          exact ⟨by first | (simp; done) | (simp [Act.eval, Act.put]; done) | (simp [getElem_set]; done) | (show Value.bool (_ == _) = _; simp), MidE.up HM6.out (by omega)⟩
      by_cases y4 : kd = 4
      · as_aux_lemma =>
          have e0 : (kd == 0) = false := by simpa using y0
          have e1 : (kd == 1) = false := by simpa using y1
          have e2 : (kd == 2) = false := by simpa using y2
          have e3 : (kd == 3) = false := by simpa using y3
          have e4 : (kd == 4) = true := by simpa using y4
          clear y0 y1 y2 y3 y4
          have hl1 := HM.out.act.cell 1
          dsimp at hl1
          have HID := Lib.hid HF.out.2
          go_wp2_with fail
          refine (accept_any HM.out.re HM.out.bel.size id).mono ?_
          rintro e w5 ⟨x, y, F5, rfl, hm, hG⟩
          obtain ⟨L5, hM5⟩ := HM.out.real (HM.out.i1.accept hm) hG
          have HM5 := Lib.hid hM5
          have HME := Lib.hid hm
          have l1 := hM5.act.cell 1
          have hla := hM5.act.lt
          dsimp at l1
          clear hm hG hM5 hl1
          go_wp2_with fail
          refine (raccept_any HM5.out.rr HM5.out.bel.size id HID.out).mono ?_
          rintro e w6 ⟨x', y', F6, rfl, hm', hQ⟩
          obtain ⟨rfl, rfl, rfl⟩ := three_eq (AcceptR.fn HME.out) (AcceptR.fn hm')
          obtain ⟨n6, M6, hn6, hM6⟩ := HM5.out.side hQ
          have HM6 : Hid (MidE w w6 g b wr.heap.size #[.int .i64 kd, .int .i64 id, .int .i64 nn, .slice a m cc] (k + 1)) := Lib.hid ⟨_, _, _, _, by omega, hM6⟩
          clear hm' hQ hM6
          go_wp2
          go_meet
          exact ⟨rfl, HM6.out⟩
      by_cases y5 : kd = 5
      · as_aux_lemma =>
          have e0 : (kd == 0) = false := by simpa using y0
          have e1 : (kd == 1) = false := by simpa using y1
          have e2 : (kd == 2) = false := by simpa using y2
          have e3 : (kd == 3) = false := by simpa using y3
          have e4 : (kd == 4) = false := by simpa using y4
          have e5 : (kd == 5) = true := by simpa using y5
          clear y0 y1 y2 y3 y4 y5
          have hl1 := HM.out.act.cell 1
          dsimp at hl1
          have HID := Lib.hid HF.out.2
          obtain ⟨hx1, hx2, hx3⟩ := HF.out.1
          dsimp only at hx1 hx2 hx3
          have HX1 := Lib.hid hx1
          have HX2 := Lib.hid hx2
          have HX3 := Lib.hid hx3
          clear hx1 hx2 hx3
          have hl3 := HM.out.act.cell 3
          dsimp at hl3
          go_wp2_with fail
          refine (write_any HM.out.re HM.out.bel.size id a m cc bs w.heap.size (HX1.out.below' HM.out.bel (Nat.le_refl _)) HX2.out HX3.out).mono ?_
          rintro e w5 ⟨x, y, F5, rfl, hm, hG⟩
          obtain ⟨L5, hM5⟩ := HM.out.real (HM.out.i1.write hm) hG
          have HM5 := Lib.hid hM5
          have HME := Lib.hid hm
          have l1 := hM5.act.cell 1
          have l3 := hM5.act.cell 3
          have hla := hM5.act.lt
          dsimp at l1 l3
          clear hm hG hM5 hl1
          go_wp2_with fail
          refine (rgiven_any HM5.out.rr HM5.out.bel.size id HID.out a m cc bs (HX1.out.below' HM5.out.bel (Nat.le_refl _)) HX2.out HX3.out).mono ?_
          rintro e w6 ⟨x', y', F6, rfl, hm', hQ⟩
          obtain ⟨rfl, rfl, rfl⟩ := three_eq (WriteR.fn HME.out) (WriteR.fn hm')
          obtain ⟨n6, M6, hn6, hM6⟩ := HM5.out.side hQ
          have HM6 : Hid (MidE w w6 g b wr.heap.size #[.int .i64 kd, .int .i64 id, .int .i64 nn, .slice a m cc] (k + 1)) := Lib.hid ⟨_, _, _, _, by omega, hM6⟩
          clear hm' hQ hM6
          go_wp2
          go_meet
          exact ⟨rfl, HM6.out⟩
      by_cases y6 : kd = 6
      · as_aux_lemma =>
          have e0 : (kd == 0) = false := by simpa using y0
          have e1 : (kd == 1) = false := by simpa using y1
          have e2 : (kd == 2) = false := by simpa using y2
          have e3 : (kd == 3) = false := by simpa using y3
          have e4 : (kd == 4) = false := by simpa using y4
          have e5 : (kd == 5) = false := by simpa using y5
          have e6 : (kd == 6) = true := by simpa using y6
          clear y0 y1 y2 y3 y4 y5 y6
          have hl1 := HM.out.act.cell 1
          have hl2 := HM.out.act.cell 2
          dsimp at hl1 hl2
          have HID := Lib.hid HF.out.2
          go_wp2_with fail
          refine (read_any HM.out.re HM.out.bel.size id nn).mono ?_
          rintro e w5 ⟨A1, m1, cc1, y1, xs1, F5, rfl, hm, hr1, hby, hG⟩
          obtain ⟨L5, hM5⟩ := HM.out.real (HM.out.i1.read hm) hG
          have HM5 := Lib.hid hM5
          have HME := Lib.hid hm
          have HR1 := Lib.hid hr1
          have HBY := Lib.hid hby
          have l1 := hM5.act.cell 1
          have l2 := hM5.act.cell 2
          have hla := hM5.act.lt
          dsimp at l1 l2
          clear hm hG hM5 hr1 hby hl1 hl2
          go_wp2_with fail
          refine (rgot_any HM5.out.rr id nn HID.out).mono ?_
          rintro e w6 ⟨A2, m2, cc2, y2, xs2, F6, rfl, hm', hr2, hQ⟩
          obtain ⟨rfl, rfl, rfl⟩ := three_eq HME.out.fn hm'.fn
          obtain ⟨n6, M6, hn6, hM6⟩ := HM5.out.side hQ
          have HM6 : Hid (MidE w w6 g b wr.heap.size #[.int .i64 kd, .int .i64 id, .int .i64 nn, .slice a m cc] (k + 1)) := Lib.hid ⟨_, _, _, _, by omega, hM6⟩
          obtain ⟨bse, hrow⟩ : ∃ bse, Row w6 bse 5 1 (.slice A1 m1 cc1) m1 (xs1.map (Value.int .u8)) := by
            obtain ⟨_, _, _, _, f9, _⟩ := hQ
            exact ⟨_, HR1.out.fr f9 (fun k hk hq => by have := (HR1.out.lt k hk).1; have := HM.out.rr.ltF k hq; omega)⟩
          have HS := Lib.hid (sameBytes_sk A1 A2 m1 cc1 m2 cc2 _ _ w6 _ _ (row_rb hrow HBY.out) hr2)
          rw [show decide (xs1 = xs1) = true by simp] at HS
          clear hm' hQ hM6 l1 l2 hr2 hrow
          go_wp2_with fail
          refine HS.out.mono ?_
          rintro e w7 ⟨rfl, rfl⟩
          go_wp2
          go_meet
          exact ⟨rfl, HM6.out⟩
      by_cases y7 : kd = 7
      · as_aux_lemma =>
          have e0 : (kd == 0) = false := by simpa using y0
          have e1 : (kd == 1) = false := by simpa using y1
          have e2 : (kd == 2) = false := by simpa using y2
          have e3 : (kd == 3) = false := by simpa using y3
          have e4 : (kd == 4) = false := by simpa using y4
          have e5 : (kd == 5) = false := by simpa using y5
          have e6 : (kd == 6) = false := by simpa using y6
          have e7 : (kd == 7) = true := by simpa using y7
          clear y0 y1 y2 y3 y4 y5 y6 y7
          have HMd := Lib.hid (HM.out.grow (Below.refl _ _).drew)
          have hl1 := HM.out.act.cell 1
          have HC := Lib.hid (mid_real HMd.out (R := ShutR F id) (fun x F' hr => HMd.out.i1.shut hr) (shut_any HMd.out.re id))
          dsimp at hl1
          have HID := Lib.hid HF.out.2
          go_wp2_with fail
          go_region_held_law (fun w' => w'.cell? ⟨wr.heap.size, 1, none⟩ = some (.int .i64 id))
            (first
              | go_keep
              | assumption)
            (first
              | (refine step_call_go rfl 20 #[.tmp 217, .tmp 219] #[23, 3] rfl #[.pointer (some ⟨g, 0, none⟩), .int .i64 id] (by simp [Act.eval, Act.put]) (run20 _ _) _ HC.out ?_
                 rintro u5 w5 ⟨x5, F5, L5, rfl, hr5, hM5⟩
                 have m1 := hM5.act.cell 1
                 have m3 := hM5.act.lt
                 dsimp at m1
                 have HD := Lib.hid (mid_side hM5 (R := ShutR F id) (x := x5) (fun y F' hr => two_eq hr.fn hr5.fn) (rshut_any hM5.rr id HID.out))
                 clear hM5 hr5)
              | (refine step_call_go rfl 21 #[.tmp 221, .tmp 223] #[26, 3] rfl #[.map (some b), .int .i64 id] (by simp [Act.eval, Act.put]) (run21 _ _) _ HD.out ?_
                 rintro u6 w6 ⟨rfl, hM6⟩
                 have HM6 := Lib.hid hM6
                 obtain ⟨_, _, _, _, _, hM7⟩ := hM6
                 have n1 := hM7.act.cell 1
                 dsimp at n1
                 clear hM7))
          first
            | (rename_i hd
               have hq := Option.some.inj (show some 224 = some _ from hd)
               subst hq
               go_wp2)
            | (go_wp2
               rename_i hd
               have hq := Option.some.inj (show some 224 = some _ from hd)
               subst hq
               dsimp only [List.set])
          go_meet
          exact ⟨by first | (simp; done) | (simp [Act.eval, Act.put]; done) | (simp [getElem_set]; done) | (show Value.bool (_ == _) = _; simp), MidE.up HM6.out (by omega)⟩
      · as_aux_lemma =>
          have e0 : (kd == 0) = false := by simpa using y0
          have e1 : (kd == 1) = false := by simpa using y1
          have e2 : (kd == 2) = false := by simpa using y2
          have e3 : (kd == 3) = false := by simpa using y3
          have e4 : (kd == 4) = false := by simpa using y4
          have e5 : (kd == 5) = false := by simpa using y5
          have e6 : (kd == 6) = false := by simpa using y6
          have e7 : (kd == 7) = false := by simpa using y7
          clear y0 y1 y2 y3 y4 y5 y6 y7
          have HMd := Lib.hid (HM.out.grow (Below.refl _ _).drew)
          have hl1 := HM.out.act.cell 1
          have HC := Lib.hid (mid_real HMd.out (R := DropR F id) (fun x F' hr => HMd.out.i1.drp hr) (drop_any HMd.out.re HMd.out.i1 HMd.out.bel.size id))
          dsimp at hl1
          have HID := Lib.hid HF.out.2
          go_wp2_with fail
          go_region_held_law (fun w' => w'.cell? ⟨wr.heap.size, 1, none⟩ = some (.int .i64 id))
            (first
              | go_keep
              | assumption)
            (first
              | (refine step_call_go rfl 22 #[.tmp 61, .tmp 63] #[23, 3] rfl #[.pointer (some ⟨g, 0, none⟩), .int .i64 id] (by simp [Act.eval, Act.put]) (run22 _ _) _ HC.out ?_
                 rintro u5 w5 ⟨x5, F5, L5, rfl, hr5, hM5⟩
                 have m1 := hM5.act.cell 1
                 have m3 := hM5.act.lt
                 dsimp at m1
                 have HD := Lib.hid (mid_side hM5 (R := DropR F id) (x := x5) (fun y F' hr => two_eq hr.fn hr5.fn) (rdrop_any hM5.rr hM5.i2 hM5.bel.size id HID.out))
                 clear hM5 hr5)
              | (refine step_call_go rfl 23 #[.tmp 65, .tmp 67] #[26, 3] rfl #[.map (some b), .int .i64 id] (by simp [Act.eval, Act.put]) (run23 _ _) _ HD.out ?_
                 rintro u6 w6 ⟨rfl, hM6⟩
                 have HM6 := Lib.hid hM6
                 obtain ⟨_, _, _, _, _, hM7⟩ := hM6
                 have n1 := hM7.act.cell 1
                 dsimp at n1
                 clear hM7))
          first
            | (rename_i hd
               have hq := Option.some.inj (show some 68 = some _ from hd)
               subst hq
               go_wp2)
            | (go_wp2
               rename_i hd
               have hq := Option.some.inj (show some 68 = some _ from hd)
               subst hq
               dsimp only [List.set])
          go_meet
          exact ⟨by first | (simp; done) | (simp [Act.eval, Act.put]; done) | (simp [getElem_set]; done) | (show Value.bool (_ == _) = _; simp), MidE.up HM6.out (by omega)⟩
    case rest =>
      obtain ⟨rfl, F, L, M, nm', hnm', hM⟩ := hcut
      have HID := Lib.hid HF.out.2
      clear HM HF
      have l1 := hM.act.cell 1
      have hla := hM.act.lt
      dsimp at l1
      have HM := Lib.hid hM
      have HT := Lib.hid (tell_any hM.re id)
      clear hM
      go_wp2_with fail
      refine HT.out.mono ?_
      rintro e w7 ⟨x1, x2, x3, x4, rfl, ht, hb7⟩
      have HM7 := Lib.hid (HM.out.grow hb7)
      have HTE := Lib.hid ht
      clear HM HT l1 hb7 ht
      have l1 := HM7.out.act.cell 1
      have hla := HM7.out.act.lt
      dsimp at l1
      have HTD := Lib.hid (rtold_any HM7.out.rr id HID.out)
      go_wp2_with fail
      refine HTD.out.mono ?_
      rintro e w8 ⟨z1, z2, z3, z4, rfl, ht, hb8⟩
      obtain ⟨rfl, rfl, rfl, rfl⟩ := four_eq ht.fn HTE.out.fn
      have HM8 := Lib.hid (HM7.out.grow hb8)
      clear HM7 HTD l1 hb8 ht
      go_wp2
      go_roundw
      case rel => exact ⟨k + 1, by omega, by omega, by go_num, F, L, M, nm', hnm', HM8.out.bo⟩
      case measure => simp [intOf]; omega
end Go.Proofs.Ytmoanemhjcdjkaa
