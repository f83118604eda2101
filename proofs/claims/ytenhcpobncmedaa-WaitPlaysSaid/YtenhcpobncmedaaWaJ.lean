/- The law ringlaw1.WaitPlays (draft of the walk: head). -/
import Derived.Test.YtenhcpobncmedaaWaI
import Derived.Deep.CutBlock
import Derived.Deep.DeepCutAuto
namespace Go.Proofs.Ytenhcpobncmedaa
open Go.RowKit
set_option maxHeartbeats 600000
set_option linter.unusedVariables false
set_option linter.unusedSimpArgs false
theorem wa_task23 (t : Int) (w : World) : Calls Try.prog 23 #[.int .i64 t] w fun e w' => e = .returned (.bool (decide (1 ≤ t ∧ t ≤ 16))) ∧ w = w' := by
  by_cases h1 : 1 ≤ t
  · have d1 : decide (1 ≤ t) = true := by simpa using h1
    by_cases h2 : t ≤ 16
    · have H := Lib.hid (decide_eq_true (show 1 ≤ t ∧ t ≤ 16 from ⟨h1, h2⟩))
      have d2 : decide (t ≤ 16) = true := by simpa using h2
      rw [H.out]
      clear h1 h2
      go_enter Try.func23, Try.ntmps23
      go_wp2
      go_ret
      exact ⟨rfl, rfl⟩
    · have H := Lib.hid (decide_eq_false (show ¬ (1 ≤ t ∧ t ≤ 16) from fun h => h2 h.2))
      have d2 : decide (t ≤ 16) = false := by simpa using h2
      rw [H.out]
      clear h1 h2
      go_enter Try.func23, Try.ntmps23
      go_wp2
      go_ret
      exact ⟨rfl, rfl⟩
  · have H := Lib.hid (decide_eq_false (show ¬ (1 ≤ t ∧ t ≤ 16) from fun h => h1 h.1))
    have d1 : decide (1 ≤ t) = false := by simpa using h1
    rw [H.out]
    clear h1
    go_enter Try.func23, Try.ntmps23
    go_wp2
    go_ret
    exact ⟨rfl, rfl⟩
theorem wa_task_is {b : Bool} (t : Int) (w : World) (h : decide (1 ≤ t ∧ t ≤ 16) = b) : Calls Try.prog 23 #[.int .i64 t] w fun e w' => e = .returned (.bool b) ∧ w = w' := h ▸ wa_task23 t w
theorem wa_wout_same {ws : List Wt} {t : Int} (h : (wts ws).contains t = false) : wout ws t = ws := by
  unfold wout
  rw [List.filter_eq_self]
  intro c hc
  have : t ∉ wts ws := by simpa using h
  simp only [bne_iff_ne, ne_eq]
  intro e
  exact this (by rw [← e]; exact List.mem_map_of_mem hc)
theorem wouts_len (ws : List Wt) (ts : List Int) : (wouts ws ts).length ≤ ws.length := by rw [wouts_eq]; exact List.length_filter_le _ _
theorem wts_len (ws : List Wt) : (wts ws).length = ws.length := by unfold wts; simp
theorem alone_len (ws : List Wt) : (alone ws).length ≤ ws.length := by
  unfold alone wts
  rw [List.length_map]; exact List.length_filter_le _ _
theorem wouts_take (ws : List Wt) (ts : List Int) {j : Nat} (h : j < ts.length) : wouts ws (ts.take (j + 1)) = wout (wouts ws (ts.take j)) (ts.getD j 0) := by
  unfold wouts
  rw [List.take_succ_eq_append_getElem h, List.foldl_append]
  simp [List.getD, List.getElem?_eq_getElem h]
def WaLoop (w : World) (g b bl k : Nat) (vl va vw : Value) (wr : World) : Prop :=
  ∃ (ws : List Wt) (f fl : Int → Option Int) (cnt cl : Nat) (nn : Int) (vq : Value), vw = .int .i64 (nn + 1) ∧ cnt ≤ k ∧ cl ≤ k ∧ nn ≤ k ∧ WaP ws f fl nn ∧ WaM w wr g b bl vq vl va ws (wts ws) (alone ws) f fl cnt cl nn
set_option maxHeartbeats 16000000 in
set_option maxRecDepth 100000 in
theorem law_waitPlays (A : Option Addr) (n c : Nat) (ps : List Pl) (w : World) (h : RPl w w.heap.size A n ps) (hn : n ≤ 140737488355328) :
    Calls Try.prog 7 #[.slice A n c] w fun e w' => e = .returned (.bool true) ∧ Below w.heap.size w w' := by
  obtain ⟨i0, hi, hz0, hz1, hz2⟩ := info_parts Try.infoInt
  go_enter Try.func7, Try.ntmps7
  go_wp2_with fail
  refine (new42 w).mono ?_
  rintro e w1 ⟨rfl, hw1⟩
  have hs1 := wa_new w w.heap.size (Nat.le_refl _)
  rw [← hw1] at hs1
  have hb1 : Below w.heap.size w w1 := by rw [hw1]; exact ((Below.refl _ _).alloc (Nat.le_refl _) _).alloc (by simp) _
  clear hw1
  have HADD := Lib.hid (add_ok (w.heap.size + 1) w.heap.size _ [] _ _ _ 1 true w1 w.heap.size hs1 hb1.size (by omega) rfl (by simp))
  have HS1 := Lib.hid hs1
  clear hs1
  generalize w.heap.size + 1 = g1 at *
  go_wp2_with fail
  refine (add_bad g1 0 true w1 (by omega)).mono ?_
  rintro e w2 ⟨rfl, rfl⟩
  go_wp2_with fail
  refine HADD.out.mono ?_
  rintro e w2 ⟨rfl, hgo⟩
  obtain ⟨vq2, hs2, hf2, _⟩ := hgo
  have hb2 : Below w.heap.size w w2 := hb1.trans (hf2.below hb1.size (fun k hk => (HS1.out.lt k hk).1))
  have HL := Lib.hid (list44 _ _ _ _ _ _ _ w2 _ hs2 (by simp))
  clear HADD HS1 hs2 hf2 hb1
  go_wp2_with fail
  refine HL.out.mono ?_
  rintro e w3 ⟨A3, c3, rfl, hr3, hb3⟩
  have hb23 := hb2.trans (hb3.mono hb2.size)
  have hr3' := hr3.below' ((Below.refl w3.heap.size w3).alloc (Nat.le_refl _) (.cells #[.int .i64 1] 3)) (Nat.le_refl _)
  have hone : RD (w3.alloc (.cells #[.int .i64 1] 3)) (w3.heap.size + 1) (some ⟨w3.heap.size, 0, none⟩) 1 [1] := reads_one w3 (.int .i64 1) 3
  have HE := Lib.hid (equal_any A3 (some ⟨w3.heap.size, 0, none⟩) 1 c3 1 1 (wts ([] ++ [(⟨1, true⟩ : Wt)])) [1] (w3.alloc (.cells #[.int .i64 1] 3)) _ _ hr3' hone (by simp) (by simp) (by omega) (by omega))
  rw [show decide (wts ([] ++ [(⟨1, true⟩ : Wt)]) = [1]) = true from rfl] at HE
  have hb33 := hb23.alloc hb23.size (.cells #[.int .i64 1] 3)
  clear hr3 hr3' hone hb3 hb2 hb23
  go_wp2_with fail
  refine HE.out.mono ?_
  rintro e w4 ⟨rfl, hb4⟩
  have hb44 := hb33.trans (hb4.mono hb33.size)
  clear hb33 hb4
  go_wp2_with fail
  refine (new42 w4).mono ?_
  rintro e w5 ⟨rfl, hw5⟩
  have hs5 := wa_new w4 w.heap.size hb44.size
  rw [← hw5] at hs5
  have hb5 : Below w.heap.size w w5 := by rw [hw5]; exact (hb44.alloc hb44.size _).alloc (by have := hb44.size; simp; omega) _
  have hsz5 : w4.heap.size < w5.heap.size := by rw [hw5]; simp; omega
  clear hw5
  have hmk := wa_makeMap
  have hM : Hid (WaM w (w5.alloc (.map #[] 0)) (w4.heap.size + 1) w4.heap.size w5.heap.size (.slice none 0 0) (.slice none 0 0) (.slice none 0 0) [] [] [] (fun _ => none) (fun _ => none) 0 0 0) := Lib.hid ⟨hs5.grow ((Below.refl _ _).alloc (Nat.le_refl _) _), Row.nil _ _ _ _, Row.nil _ _ _ _, IntMap.made Try.prog w5 3 3, fun k hk => by simp [Value.ownBlock] at hk, by omega, hb5.size, hb5.alloc hb5.size _⟩
  go_wp2_with fail
  clear hs5 hb5 hmk hb44 HL HE
  generalize w4.heap.size + 1 = g at *
  generalize w4.heap.size = b at *
  generalize w5.heap.size = bl at *
  go_loopw [5, 6, 8, 53] (fun vl va vw i wr => ∃ k : Nat, k ≤ n ∧ i = .int .i64 k ∧ WaLoop w g b bl k vl va vw wr) (fun _ _ _ i _ => n - (intOf i).toNat)
  case atStart => exact ⟨0, by omega, rfl, [], _, _, 0, 0, 0, _, rfl, by omega, by omega, by omega, WaP.new, hM.out⟩
  case round =>
    clear hM
    obtain ⟨k, hk, rfl, ws, f, fl, cnt, cl, nn, vq, rfl, hcn, hcl, hnk, hP, hQ⟩ := hrel
    by_cases hlt : k < n
    rotate_left
    · obtain rfl : k = n := by omega
      have hlow := hQ.low
      clear hQ hP
      go_wp2
      go_ret
      exact ⟨rfl, hlow⟩
    · obtain ⟨b9, o9, rfl, hb9, hcell, hfine⟩ := (h.below' hQ.low (Nat.le_refl _)).at_ hlt
      generalize ps.getD k .zero = p at *
      obtain ⟨Ap, np, cp, xs⟩ := p
      obtain ⟨hri, hnp⟩ := hfine
      dsimp only at hcell hri hnp
      have hkn : (k : Int) < n := by omega
      have hx1 := RI.rng hri 1 (by decide)
      have hx2 := RI.rng hri 2 (by decide)
      have hRD : RD wr w.heap.size Ap np xs := RD.of_ri hri
      clear hri
      go_wp2_with fail
      refine (at_any Ap np cp xs 1 _ _ hRD hnp (by omega)).mono ?_
      rintro e w4 ⟨rfl, rfl⟩
      generalize xs.getD 1 0 = t at *
      go_wp2_with fail
      refine (at_any Ap np cp xs 2 _ _ hRD hnp (by omega)).mono ?_
      rintro e w4 ⟨rfl, rfl⟩
      generalize xs.getD 2 0 = v at *
      obtain ⟨Al, cl9, hvl, hcl1, hcl2⟩ := hQ.l.shape
      subst hvl
      obtain ⟨A6, c6, hv6, hd1, hd2⟩ := hQ.a.shape
      subst hv6
      have hal := alone_len ws
      have hlen2 := hP.len
      have hlen : (wts ws).length ≤ 17 := by unfold wts; simpa using hlen2
      have HCT := Lib.hid (contains_any Al (wts ws).length cl9 t (wts ws) wr _ (RD.of_row hQ.l) (by omega))
      obtain ⟨isb, hisb⟩ : ∃ q, (wts ws).contains t = q := ⟨_, rfl⟩
      rw [hisb] at HCT
      have HIS := Lib.hid hisb
      clear hisb
      go_wp2_with fail
      refine HCT.out.mono ?_
      rintro e w5 ⟨rfl, rfl⟩
      go_wp2_with fail
      refine (at_any Ap np cp xs 0 _ _ hRD hnp (by omega)).mono ?_
      rintro e w4 ⟨rfl, rfl⟩
      generalize xs.getD 0 0 = y at *
      clear hRD hcell HCT
      have htw := hx1
      generalize (v == 1) = al at *
      go_upto_block 2 with fail
      go_cut [5, 6, 8, 12, 13] (fun s5 s6 s8 s12 s13 wx => WaLoop w g b bl (k + 1) s5 s6 s8 wx)
      case first =>
        by_cases hy1 : y = 1
        · as_aux_lemma =>
            have e1 : (y == 1) = true := by simpa using hy1
            clear hy1
            by_cases ht : 1 ≤ t ∧ t ≤ 16
            rotate_left
            · have HT := Lib.hid (wa_task_is t wr (decide_eq_false ht))
              have HA := Lib.hid (add_bad g t al wr ht)
              have HN : Hid (WaLoop w g b bl (k + 1) (.slice Al (wts ws).length cl9) (.slice A6 (alone ws).length c6) (.int .i64 (nn + 1)) wr) := Lib.hid ⟨ws, f, fl, cnt, cl, nn, vq, rfl, by omega, by omega, by omega, hP, hQ⟩
              clear hP hQ ht
              go_wp2_with fail
              refine HT.out.mono ?_
              rintro e w9 ⟨rfl, rfl⟩
              go_wp2_with fail
              refine HA.out.mono ?_
              rintro e w9 ⟨rfl, rfl⟩
              go_wp2
              go_meet
              exact HN.out
            · have HT := Lib.hid (wa_task_is t wr (decide_eq_true ht))
              cases isb with
              | true =>
                have HA := Lib.hid (add_there g b vq ws f cnt nn t al wr w.heap.size hQ.q ht HIS.out)
                have HN : Hid (∀ w9, Below wr.heap.size wr w9 → WaLoop w g b bl (k + 1) (.slice Al (wts ws).length cl9) (.slice A6 (alone ws).length c6) (.int .i64 (nn + 1)) w9) := Lib.hid fun w9 hb => ⟨ws, f, fl, cnt, cl, nn, vq, rfl, by omega, by omega, by omega, hP, hQ.grow hb⟩
                clear hP hQ ht
                go_wp2_with fail
                refine HT.out.mono ?_
                rintro e w9 ⟨rfl, rfl⟩
                go_wp2_with fail
                refine HA.out.mono ?_
                rintro e w9 ⟨rfl, hb9⟩
                have HN9 := Lib.hid (HN.out w9 hb9)
                go_wp2
                go_meet
                exact HN9.out
              | false =>
                have HPA := Lib.hid (fun al => hP.app (al := al) ht HIS.out)
                have HADD := Lib.hid (fun W vq al hq hB => add_ok g b vq ws f cnt nn t al W w.heap.size hq hB ht HIS.out (by omega))
                have hrow := hQ.l
                have hsz := hQ.low.size
                have HQ := Lib.hid hQ
                have HEQ := Lib.hid (show ∀ al, wts ws ++ [t] = wts (ws ++ [(⟨t, al⟩ : Wt)]) from fun al => (wts_app ws t al).symm)
                have HEA := Lib.hid (show ∀ al : Bool, (if al = true then alone ws ++ [t] else alone ws) = alone (ws ++ [(⟨t, al⟩ : Wt)]) from fun al => (alone_app ws t al).symm)
                clear hP hQ ht
                generalize hlw : (wts ws).length = lw at *
                generalize hla : (alone ws).length = la at *
                have HLW := Lib.hid hlw
                have HLA := Lib.hid hla
                clear hlw hla
                go_wp2_with fail
                refine HT.out.mono ?_
                rintro e w9 ⟨rfl, rfl⟩
                go_wp2_with (at_builtin; refine wpList_append_row _ rfl (.tmp 69) (.tmp 71) 45 rfl w.heap.size 3 i0 (.int .i64 0) 1 8 Try.underlying45 hi hz0 hz1 hz2 rfl (by decide) (.slice Al lw cl9) lw ((wts ws).map (Value.int .i64)) rfl (hrow.alloc _) (wr.heap.size + 1) (some ⟨wr.heap.size, 0, none⟩) 1 1 [.int .i64 t] rfl (reads_one wr (.int .i64 t) 3) (by simp [Value.oneCell']) (by unfold maxLen; omega) (by omega) (by simp; omega) ?_)
                intro A8 c8 w8 hr8 hg8 ho8
                have hQ8 := HQ.out.appL HLW.out hr8 hg8 (by simpa using ho8)
                clear hr8 hg8 ho8 hrow
                have hsz8 := hQ8.low.size
                cases al with
                | true =>
                  have hrow := hQ8.a
                  rw [HLA.out] at hrow
                  have HQ8 := Lib.hid hQ8
                  clear hQ8
                  go_wp2_with (at_builtin; refine wpList_append_row _ rfl (.tmp 74) (.tmp 76) 45 rfl w.heap.size 3 i0 (.int .i64 0) 1 8 Try.underlying45 hi hz0 hz1 hz2 rfl (by decide) (.slice A6 la c6) la ((alone ws).map (Value.int .i64)) rfl (hrow.alloc _) (w8.heap.size + 1) (some ⟨w8.heap.size, 0, none⟩) 1 1 [.int .i64 t] rfl (reads_one w8 (.int .i64 t) 3) (by simp [Value.oneCell']) (by unfold maxLen; omega) (by omega) (by simp; omega) ?_)
                  intro A9 c9 w9 hr9 hg9 ho9
                  have hQ9 := HQ8.out.appA HLA.out hr9 hg9 (by simpa using ho9)
                  have HA := Lib.hid (HADD.out w9 vq true hQ9.q hQ9.low.size)
                  have HQ9 := Lib.hid hQ9
                  clear hr9 hg9 ho9 hrow hQ9
                  go_wp2_with fail
                  refine HA.out.mono ?_
                  rintro e w10 ⟨rfl, hgo⟩
                  obtain ⟨vq2, hQ10⟩ := HQ9.out.go hgo
                  have HN : Hid (WaLoop w g b bl (k + 1) (.slice A8 (lw + 1) c8) (.slice A9 (la + 1) c9) (.int .i64 (nn + 1)) w10) := Lib.hid ⟨_, f, fl, cnt, cl, nn, vq2, rfl, by omega, by omega, by omega, HPA.out true, hQ10.eqs rfl (HEQ.out true) (HEA.out true)⟩
                  clear hgo hQ10
                  go_wp2
                  go_meet
                  exact HN.out
                | false =>
                  have HA := Lib.hid (HADD.out w8 vq false hQ8.q hQ8.low.size)
                  have HQ8 := Lib.hid hQ8
                  clear hQ8
                  go_wp2_with fail
                  refine HA.out.mono ?_
                  rintro e w10 ⟨rfl, hgo⟩
                  obtain ⟨vq2, hQ10⟩ := HQ8.out.go hgo
                  have HN : Hid (WaLoop w g b bl (k + 1) (.slice A8 (lw + 1) c8) (.slice A6 la c6) (.int .i64 (nn + 1)) w10) := Lib.hid ⟨_, f, fl, cnt, cl, nn, vq2, rfl, by omega, by omega, by omega, HPA.out false, hQ10.eqs rfl (HEQ.out false) (HEA.out false)⟩
                  clear hgo hQ10
                  go_wp2
                  go_meet
                  exact HN.out
        by_cases hy2 : y = 2
        · as_aux_lemma =>
            have e1 : (y == 1) = false := by simp; omega
            have e2 : (y == 2) = true := by simpa using hy2
            clear hy1 hy2
            have HP2 := Lib.hid (hP.out t)
            have HW := Lib.hid (wts_wout ws t)
            have HAL := Lib.hid (alone_wout ws t)
            have HWL := Lib.hid (fun W vq ws9 (hQ : WaM w W g b bl vq (.slice Al (wts ws).length cl9) (.slice A6 (alone ws).length c6) ws9 (wts ws) (alone ws) f fl cnt cl nn) => without47 Al (wts ws).length cl9 (wts ws) t W _ (RD.of_row hQ.l) (Nat.le_refl _) (by omega))
            have HWA := Lib.hid (fun W vq ws9 vl xl (hQ : WaM w W g b bl vq vl (.slice A6 (alone ws).length c6) ws9 xl (alone ws) f fl cnt cl nn) => without47 A6 (alone ws).length c6 (alone ws) t W _ (RD.of_row hQ.a) (Nat.le_refl _) (by omega))
            cases isb with
            | true =>
              have HO := Lib.hid (out_ok g b vq ws f cnt nn t wr w.heap.size hQ.q HIS.out)
              have HQ := Lib.hid hQ
              clear hP hQ
              generalize (wts ws).length = lw at *
              generalize (alone ws).length = la at *
              go_wp2_with fail
              refine HO.out.mono ?_
              rintro e w9 ⟨rfl, hgo⟩
              obtain ⟨vq2, hQ2⟩ := HQ.out.go hgo
              have HQ2 := Lib.hid hQ2
              have HL := Lib.hid (HWL.out _ _ _ hQ2)
              clear hQ2 hgo
              go_wp2_with fail
              refine HL.out.mono ?_
              rintro e w10 ⟨v10, rfl, hr10, hb10⟩
              have HQ3 := Lib.hid (HQ2.out.newL hr10 hb10)
              have HA := Lib.hid (HWA.out _ _ _ _ _ HQ3.out)
              clear hr10 hb10
              go_wp2_with fail
              refine HA.out.mono ?_
              rintro e w11 ⟨v11, rfl, hr11, hb11⟩
              have HN : Hid (WaLoop w g b bl (k + 1) v10 v11 (.int .i64 (nn + 1)) w11) := Lib.hid ⟨_, f, fl, cnt, cl, nn, vq2, rfl, by omega, by omega, by omega, HP2.out, (HQ3.out.newA hr11 hb11).eqs rfl HW.out.symm HAL.out.symm⟩
              clear hr11 hb11
              go_wp2
              go_meet
              exact HN.out
            | false =>
              have HO := Lib.hid (out_none g b vq ws f cnt nn t wr w.heap.size hQ.q HIS.out)
              have HS := Lib.hid (wa_wout_same HIS.out)
              have HQ := Lib.hid hQ
              clear hP hQ
              generalize (wts ws).length = lw at *
              generalize (alone ws).length = la at *
              go_wp2_with fail
              refine HO.out.mono ?_
              rintro e w9 ⟨rfl, hb9⟩
              have hQ2 := HQ.out.grow hb9
              have HQ2 := Lib.hid hQ2
              have HL := Lib.hid (HWL.out _ _ _ hQ2)
              clear hQ2 hb9
              go_wp2_with fail
              refine HL.out.mono ?_
              rintro e w10 ⟨v10, rfl, hr10, hb10⟩
              have HQ3 := Lib.hid (HQ2.out.newL hr10 hb10)
              have HA := Lib.hid (HWA.out _ _ _ _ _ HQ3.out)
              clear hr10 hb10
              go_wp2_with fail
              refine HA.out.mono ?_
              rintro e w11 ⟨v11, rfl, hr11, hb11⟩
              have HN : Hid (WaLoop w g b bl (k + 1) v10 v11 (.int .i64 (nn + 1)) w11) := Lib.hid ⟨_, f, fl, cnt, cl, nn, vq, rfl, by omega, by omega, by omega, HP2.out, (HQ3.out.newA hr11 hb11).eqs HS.out.symm HW.out.symm HAL.out.symm⟩
              clear hr11 hb11
              go_wp2
              go_meet
              exact HN.out
        by_cases hy3 : y = 3
        · have e1 : (y == 1) = false := by simp; omega
          have e2 : (y == 2) = false := by simp; omega
          have e3 : (y == 3) = true := by simpa using hy3
          clear hy1 hy2 hy3
          obtain ⟨W, hW⟩ : ∃ W, W = wr := ⟨_, rfl⟩
          subst hW
          have ht2 := i64_range htw
          by_cases ht0 : t < 0
          · have d0 : decide (t < 0) = true := by simpa using ht0
            have HA := Lib.hid (wake_bad g t W ht0)
            have HN : Hid (WaLoop w g b bl (k + 1) (.slice Al (wts ws).length cl9) (.slice A6 (alone ws).length c6) (.int .i64 (nn + 1)) W) := Lib.hid ⟨ws, f, fl, cnt, cl, nn, vq, rfl, by omega, by omega, by omega, hP, hQ⟩
            clear hP hQ ht0
            go_wp2_with fail
            refine HA.out.mono ?_
            rintro e w9 ⟨rfl, rfl⟩
            go_wp2
            go_meet
            exact HN.out
          have d0 : decide (t < 0) = false := by simpa using ht0
          have hn0 := hP.nn0
          have HA := Lib.hid (wake_ok g b vq ws f cnt nn t W w.heap.size hQ.q hQ.low.size (by omega) (by omega) (by omega) (by omega))
          have HQ := Lib.hid hQ
          have HPW := Lib.hid (hP.wake t)
          have HND := Lib.hid hP.nd
          have HWL := Lib.hid (wk_len ws t)
          have hwl := wts_len ws
          have HWO := Lib.hid (wouts_wk ws t hP.nd)
          have HWOL := Lib.hid (fun ts => wouts_len ws ts)
          clear hP hQ
          generalize hlw : (wts ws).length = lw at *
          generalize hla : (alone ws).length = la at *
          have HLW := Lib.hid hlw
          have HLA := Lib.hid hla
          have HLS := Lib.hid hwl
          clear hlw hla
          have hlw17 : lw ≤ 17 := by omega
          clear hwl
          go_wp2_with fail
          refine HA.out.mono ?_
          rintro e w9 ⟨A9, c9, rfl, hr9, hgo⟩
          obtain ⟨vq2, hQ9⟩ := HQ.out.go hgo
          have HQ9 := Lib.hid hQ9
          clear hgo hQ9
          have HR9 := Lib.hid hr9
          clear hr9
          generalize hlo : (wk ws t).out.length = lo at *
          have HLO := Lib.hid hlo
          clear hlo
          have hst : Row w9 w9.heap.size 3 1 (.slice none 0 0) (wk (ws.take 0) t).out.length ((wk (ws.take 0) t).out.map (Value.int .i64)) := Row.nil _ _ _ _
          have hst2 : Value.int .i64 t = .int .i64 (wk (ws.take 0) t).n := rfl
          have HST := Lib.hid hst
          have HST2 := Lib.hid hst2
          clear hst hst2
          go_wp2_with fail
          go_loopw [18, 19, 124] (fun v18 vn i wx => ∃ j : Nat, j ≤ lw ∧ i = .int .i64 j ∧ vn = .int .i64 (wk (ws.take j) t).n ∧ Row wx w9.heap.size 3 1 v18 (wk (ws.take j) t).out.length ((wk (ws.take j) t).out.map (Value.int .i64)) ∧ Below w9.heap.size w9 wx) (fun _ _ i _ => lw - (intOf i).toNat)
          case atStart => exact ⟨0, by omega, rfl, HST2.out, HST.out, Below.refl _ _⟩
          case round =>
            obtain ⟨j, hj, rfl, rfl, hrow, hbw⟩ := hrel
            clear HST HST2
            have hsz := hbw.size
            obtain ⟨hw1, hw2, hw3⟩ := HWL.out j (by rw [← HLS.out]; exact hj)
            have hw3' := hw3 (by omega)
            clear hw3
            by_cases hlt2 : j < lw
            · obtain ⟨A18, c18, hv18, hc18, hc18'⟩ := hrow.shape
              subst hv18
              have hjs : j < ws.length := by rw [← HLS.out]; exact hlt2
              have hRDl := RD.of_row' (HQ9.out.grow hbw).l
              obtain ⟨b8, o8, rfl, hb8, k0⟩ := hRDl.at_ hlt2
              rw [wts_getD] at k0
              have hmem : ws.getD j Wt.zero ∈ ws := by rw [List.getD, List.getElem?_eq_getElem hjs]; exact List.getElem_mem hjs
              have hca := alone_contains HND.out hmem
              have HT := Lib.hid (wk_take ws t hjs)
              generalize ws.getD j Wt.zero = yy at *
              obtain ⟨yt, yal⟩ := yy
              have HCA := Lib.hid (contains_any A6 la c6 yt (alone ws) wr _ (RD.of_row' (HQ9.out.grow hbw).a) (by omega))
              dsimp only at k0 hca
              rw [hca] at HCA
              clear hca hmem hRDl
              generalize wk (ws.take j) t = s at *
              obtain ⟨so, sl, sn⟩ := s
              dsimp only at hw1 hw2 hw3' hrow hc18
              cases yal with
              | false =>
                have HS : Hid (Wk.step ⟨so, sl, sn⟩ ⟨yt, false⟩ = ⟨so ++ [yt], sl, sn⟩) := Lib.hid (by unfold Wk.step; simp)
                have hlo' : so.length ≤ 1000 := by omega
                generalize hso : so.length = ol at *
                have HSO := Lib.hid hso
                have HROW := Lib.hid hrow
                clear hso hw1
                go_wp2_with fail
                refine HCA.out.mono ?_
                rintro e w6 ⟨rfl, rfl⟩
                go_wp2_with (at_builtin; refine wpList_append_row _ rfl (.tmp 135) (.tmp 137) 45 rfl w9.heap.size 3 i0 (.int .i64 0) 1 8 Try.underlying45 hi hz0 hz1 hz2 rfl (by decide) (.slice A18 ol c18) ol (so.map (Value.int .i64)) rfl (HROW.out.alloc _) (wr.heap.size + 1) (some ⟨wr.heap.size, 0, none⟩) 1 1 [.int .i64 yt] rfl (reads_one wr (.int .i64 yt) 3) (by simp [Value.oneCell']) (by unfold maxLen; omega) (by omega) (by simp; omega) ?_)
                intro A8 c8 w8 hr8 hg8 ho8
                have HB8 := Lib.hid ((hbw.alloc hsz _).grown hg8 (by simp; omega) (fun k hk => (HROW.out.lt k hk).1))
                have HR8 : Hid (Row w8 w9.heap.size 3 1 (.slice A8 (ol + 1) c8) (so ++ [yt]).length ((so ++ [yt]).map (Value.int .i64))) := Lib.hid (by rw [List.length_append, List.map_append, HSO.out]; exact hr8)
                clear hr8 hg8 ho8 hrow
                go_wp2
                go_roundw
                case rel => exact ⟨j + 1, by omega, by go_num, by rw [HT.out, HS.out], by rw [HT.out, HS.out]; exact HR8.out, HB8.out⟩
                case measure => simp [intOf]; omega
              | true =>
                by_cases h0n : 0 < sn
                · have HS : Hid (Wk.step ⟨so, sl, sn⟩ ⟨yt, true⟩ = ⟨so ++ [yt], sl, sn - 1⟩) := Lib.hid (by unfold Wk.step; simp [h0n])
                  have hlo' : so.length ≤ 1000 := by omega
                  have d9 : (sn == 0) = false := by simp; omega
                  generalize hso : so.length = ol at *
                  have HSO := Lib.hid hso
                  have HROW := Lib.hid hrow
                  clear hso hw1
                  go_wp2_with fail
                  refine HCA.out.mono ?_
                  rintro e w6 ⟨rfl, rfl⟩
                  go_wp2_with (at_builtin; refine wpList_append_row _ rfl (.tmp 135) (.tmp 137) 45 rfl w9.heap.size 3 i0 (.int .i64 0) 1 8 Try.underlying45 hi hz0 hz1 hz2 rfl (by decide) (.slice A18 ol c18) ol (so.map (Value.int .i64)) rfl (HROW.out.alloc _) (wr.heap.size + 1) (some ⟨wr.heap.size, 0, none⟩) 1 1 [.int .i64 yt] rfl (reads_one wr (.int .i64 yt) 3) (by simp [Value.oneCell']) (by unfold maxLen; omega) (by omega) (by simp; omega) ?_)
                  intro A8 c8 w8 hr8 hg8 ho8
                  have HB8 := Lib.hid ((hbw.alloc hsz _).grown hg8 (by simp; omega) (fun k hk => (HROW.out.lt k hk).1))
                  have HR8 : Hid (Row w8 w9.heap.size 3 1 (.slice A8 (ol + 1) c8) (so ++ [yt]).length ((so ++ [yt]).map (Value.int .i64))) := Lib.hid (by rw [List.length_append, List.map_append, HSO.out]; exact hr8)
                  clear hr8 hg8 ho8 hrow
                  go_wp2
                  go_roundw
                  case rel => exact ⟨j + 1, by omega, by go_num, by rw [HT.out, HS.out], by rw [HT.out, HS.out]; exact HR8.out, HB8.out⟩
                  case measure => simp [intOf]; omega
                · have HS : Hid (Wk.step ⟨so, sl, sn⟩ ⟨yt, true⟩ = ⟨so, sl ++ [⟨yt, true⟩], sn⟩) := Lib.hid (by unfold Wk.step; simp [h0n])
                  obtain rfl : sn = 0 := by omega
                  have HROW := Lib.hid hrow
                  have HB8 := Lib.hid hbw
                  clear hw1 hrow h0n
                  go_wp2_with fail
                  refine HCA.out.mono ?_
                  rintro e w6 ⟨rfl, rfl⟩
                  go_wp2
                  go_roundw
                  case rel => exact ⟨j + 1, by omega, by go_num, by rw [HT.out, HS.out], by rw [HT.out, HS.out]; exact HROW.out, HB8.out⟩
                  case measure => simp [intOf]; omega
            · obtain rfl : j = lw := by omega
              have e9 : ws.take j = ws := List.take_of_length_le (by rw [← HLS.out]; exact Nat.le_refl _)
              rw [e9, HLO.out] at hrow
              obtain ⟨A18, c18, hv18, hc18, hc18'⟩ := hrow.shape
              subst hv18
              have hrd9 : RD wr w9.heap.size A9 lo (wk ws t).out := Reads.below' HR9.out hbw (Nat.le_refl _)
              have hlo17 : lo ≤ 17 := by rw [e9, HLO.out] at hw1; omega
              have HE := Lib.hid (equal_any A9 A18 lo c9 lo c18 (wk ws t).out (wk ws t).out wr _ _ hrd9 (RD.of_row hrow) hsz (Nat.le_refl _) (by omega) (by omega))
              rw [decide_eq_true rfl] at HE
              have HQ10 := Lib.hid (HQ9.out.grow hbw)
              have HRW : Hid (RD wr wr.heap.size A18 lo (wk ws t).out) := Lib.hid (RD.of_row hrow)
              clear hw1 hw2 hw3' hrow hrd9 hbw HQ9 HR9 e9
              generalize (wk (List.take j ws) t).n = nz at *
              obtain ⟨W9, hW9⟩ : ∃ W', W' = wr := ⟨_, rfl⟩
              subst hW9
              go_wp2_with fail
              refine HE.out.mono ?_
              rintro e w12 ⟨rfl, hb12⟩
              have HQ12 := Lib.hid (HQ10.out.grow hb12)
              have HRW12 : Hid (RD w12 w12.heap.size A18 lo (wk ws t).out) := Lib.hid (Reads.more (Reads.below' HRW.out hb12 (Nat.le_refl _)) hb12.size)
              clear HE HQ10 HRW
              go_wp2_with fail
              go_loopw [5, 6, 150] (fun v5 v6 i wx => ∃ m : Nat, m ≤ lo ∧ i = .int .i64 m ∧ WaM w wx g b bl vq2 v5 v6 (wk ws t).left (wts (wouts ws ((wk ws t).out.take m))) (alone (wouts ws ((wk ws t).out.take m))) f fl cnt cl (nn + 1) ∧ Below w12.heap.size w12 wx) (fun _ _ i _ => lo - (intOf i).toNat)
              case atStart => exact ⟨0, by omega, rfl, HQ12.out, Below.refl _ _⟩
              case round =>
                obtain ⟨m, hm, rfl, hQm, hbm⟩ := hrel
                clear HQ12
                obtain ⟨A20, c20, hv20, hc20, hc20'⟩ := hQm.l.shape
                subst hv20
                obtain ⟨A21, c21, hv21, hc21, hc21'⟩ := hQm.a.shape
                subst hv21
                by_cases hlt3 : m < lo
                · have hrw : RD wr w12.heap.size A18 lo (wk ws t).out := Reads.below' HRW12.out hbm (Nat.le_refl _)
                  obtain ⟨b8, o8, rfl, hb8, k0⟩ := hrw.at_ hlt3
                  have HT := Lib.hid (wouts_take ws (wk ws t).out (j := m) (by rw [HLO.out]; exact hlt3))
                  have hl1 := HWOL.out ((wk ws t).out.take m)
                  rw [← HLS.out] at hl1
                  generalize (wk ws t).out.getD m 0 = x at *
                  generalize wouts ws ((wk ws t).out.take m) = wm at *
                  have hl2 := wts_len wm
                  have hl3 := alone_len wm
                  have HL := Lib.hid (without47 A20 (wts wm).length c20 (wts wm) x wr _ (RD.of_row hQm.l) (Nat.le_refl _) (by omega))
                  have HWA := Lib.hid (fun W vl xl (hQ : WaM w W g b bl vq2 vl (.slice A21 (alone wm).length c21) (wk ws t).left xl (alone wm) f fl cnt cl (nn + 1)) => without47 A21 (alone wm).length c21 (alone wm) x W _ (RD.of_row hQ.a) (Nat.le_refl _) (by omega))
                  have HQm := Lib.hid hQm
                  have HEQ := Lib.hid (wts_wout wm x)
                  have HEA := Lib.hid (alone_wout wm x)
                  have hszm := hbm.size
                  clear hQm hrw
                  generalize (wts wm).length = l1 at *
                  generalize (alone wm).length = l2 at *
                  clear hl2
                  go_wp2_with fail
                  refine HL.out.mono ?_
                  rintro e w13 ⟨v13, rfl, hr13, hb13⟩
                  have HQ13 := Lib.hid (HQm.out.newL hr13 hb13)
                  have HA := Lib.hid (HWA.out _ _ _ HQ13.out)
                  clear hr13
                  go_wp2_with fail
                  refine HA.out.mono ?_
                  rintro e w14 ⟨v14, rfl, hr14, hb14⟩
                  have HN := Lib.hid ((HQ13.out.newA hr14 hb14).eqs rfl HEQ.out.symm HEA.out.symm)
                  have HB := Lib.hid (hbm.trans ((hb13.trans (hb14.mono hb13.size)).mono hszm))
                  clear hr14 hb14 hb13
                  go_wp2
                  go_roundw
                  case rel => exact ⟨m + 1, by omega, by go_num, by rw [HT.out]; exact HN.out, HB.out⟩
                  case measure => simp [intOf]; omega
                · obtain rfl : m = lo := by omega
                  have e8 : (wk ws t).out.take m = (wk ws t).out := List.take_of_length_le (by rw [HLO.out]; exact Nat.le_refl _)
                  have hQe := hQm
                  rw [e8, HWO.out] at hQe
                  have HN : Hid (WaLoop w g b bl (k + 1) (.slice A20 (wts (wouts ws ((wk ws t).out.take m))).length c20) (.slice A21 (alone (wouts ws ((wk ws t).out.take m))).length c21) (.int .i64 (nn + 1 + 1)) wr) := Lib.hid ⟨_, f, fl, cnt, cl, nn + 1, vq2, rfl, by omega, by omega, by omega, HPW.out, by rw [e8, HWO.out]; exact hQe⟩
                  clear hQm hQe e8
                  generalize (wts (wouts ws ((wk ws t).out.take m))).length = l1 at *
                  generalize (alone (wouts ws ((wk ws t).out.take m))).length = l2 at *
                  go_wp2
                  go_meet
                  exact HN.out
        by_cases hy4 : y = 4
        · as_aux_lemma =>
            have e1 : (y == 1) = false := by simp; omega
            have e2 : (y == 2) = false := by simp; omega
            have e3 : (y == 3) = false := by simp; omega
            have e4 : (y == 4) = true := by simpa using hy4
            clear hy1 hy2 hy3 hy4
            by_cases ht : 1 ≤ t ∧ t ≤ 16
            rotate_left
            · have HT := Lib.hid (wa_task_is t wr (decide_eq_false ht))
              have HA := Lib.hid (look_bad g t wr ht)
              have HN : Hid (WaLoop w g b bl (k + 1) (.slice Al (wts ws).length cl9) (.slice A6 (alone ws).length c6) (.int .i64 (nn + 1)) wr) := Lib.hid ⟨ws, f, fl, cnt, cl, nn, vq, rfl, by omega, by omega, by omega, hP, hQ⟩
              clear hP hQ ht
              go_wp2_with fail
              refine HT.out.mono ?_
              rintro e w9 ⟨rfl, rfl⟩
              go_wp2_with fail
              refine HA.out.mono ?_
              rintro e w9 ⟨rfl, rfl⟩
              go_wp2
              go_meet
              exact HN.out
            · have HT := Lib.hid (wa_task_is t wr (decide_eq_true ht))
              cases isb with
              | true =>
                have HA := Lib.hid (look_there g b vq ws f cnt nn t wr w.heap.size hQ.q ht HIS.out)
                have HN : Hid (∀ w9, Below wr.heap.size wr w9 → WaLoop w g b bl (k + 1) (.slice Al (wts ws).length cl9) (.slice A6 (alone ws).length c6) (.int .i64 (nn + 1)) w9) := Lib.hid fun w9 hb => ⟨ws, f, fl, cnt, cl, nn, vq, rfl, by omega, by omega, by omega, hP, hQ.grow hb⟩
                clear hP hQ ht
                go_wp2_with fail
                refine HT.out.mono ?_
                rintro e w9 ⟨rfl, rfl⟩
                go_wp2_with fail
                refine HA.out.mono ?_
                rintro e w9 ⟨rfl, hb9⟩
                have HN9 := Lib.hid (HN.out w9 hb9)
                go_wp2
                go_meet
                exact HN9.out
              | false =>
                have hn0 := hP.nn0
                have hnw : (Lit.int .i64 (nn + 1)).wf = true := by simp [Lit.wf, IntKind.min, IntKind.max, IntKind.signed, IntKind.bits]; omega
                obtain ⟨w8, hrun, hm8, hg8⟩ := hQ.m.update (t := 78) Try.underlying3 Try.underlying3 Try.underlying78 (by unfold maxLen; omega) htw hnw
                have hQ8 := hQ.setM hm8 hg8
                have HA := Lib.hid (look_ok g b vq ws f cnt nn t w8 w.heap.size hQ8.q ht HIS.out (by unfold maxLen; omega) (by omega))
                have HQ8 := Lib.hid hQ8
                have HP := Lib.hid (hP.look t (nn + 1) ht)
                clear hP hQ ht hm8 hg8 hQ8
                go_wp2_with fail
                refine HT.out.mono ?_
                rintro e w9 ⟨rfl, rfl⟩
                go_wp2_with fail
                refine HA.out.mono ?_
                rintro e w9 ⟨rfl, hgo⟩
                obtain ⟨vq2, hQ9⟩ := HQ8.out.go hgo
                have HN : Hid (WaLoop w g b bl (k + 1) (.slice Al (wts ws).length cl9) (.slice A6 (alone ws).length c6) (.int .i64 (nn + 1)) w9) := Lib.hid ⟨ws, _, _, _, _, nn, vq2, rfl, by omega, by omega, by omega, HP.out, hQ9⟩
                clear hQ9 hgo
                go_wp2
                go_meet
                exact HN.out
        by_cases hy5 : y = 5
        · as_aux_lemma =>
            have e1 : (y == 1) = false := by simp; omega
            have e2 : (y == 2) = false := by simp; omega
            have e3 : (y == 3) = false := by simp; omega
            have e4 : (y == 4) = false := by simp; omega
            have e5 : (y == 5) = true := by simpa using hy5
            clear hy1 hy2 hy3 hy4 hy5
            obtain ⟨m, hm⟩ : ∃ m, (f t).getD 0 = m := ⟨_, rfl⟩
            have hml : (fl t).getD 0 = m := by rw [← hP.lk]; exact hm
            have hn0 := hP.nn0
            have HLK := Lib.hid (fun W vq ws9 f9 cnt9 vl xl va xa (hQ : WaM w W g b bl vq vl va ws9 xl xa f9 fl cnt9 cl nn) => hQ.m.run_lookup (t := 78) Try.underlying3 Try.underlying3 Try.underlying78 (wa_zero3 W) htw)
            rw [hml] at HLK
            by_cases hm0 : m = 0
            · have dm : (m == 0) = true := by simpa using hm0
              have HA := Lib.hid (sleep_none g b vq ws f cnt nn t al wr w.heap.size hQ.q htw (hm.trans hm0))
              have hlook := HLK.out _ _ _ _ _ _ _ _ _ hQ
              have HN : Hid (WaLoop w g b bl (k + 1) (.slice Al (wts ws).length cl9) (.slice A6 (alone ws).length c6) (.int .i64 (nn + 1)) wr) := Lib.hid ⟨ws, f, fl, cnt, cl, nn, vq, rfl, by omega, by omega, by omega, hP, hQ⟩
              clear hP hQ hm0 hm hml
              go_wp2_with fail
              refine HA.out.mono ?_
              rintro e w9 ⟨rfl, rfl⟩
              go_wp2
              go_meet
              exact HN.out
            have dm : (m == 0) = false := by simpa using hm0
            cases isb with
            | true =>
              have HA := Lib.hid (sleep_there g b vq ws f cnt nn t m al wr w.heap.size hQ.q htw hm hm0 HIS.out)
              have HQ := Lib.hid hQ
              have HP := Lib.hid hP
              clear hP hQ hm0 hm hml
              go_wp2_with fail
              refine HA.out.mono ?_
              rintro e w9 ⟨rfl, hb9⟩
              have hQ9 := HQ.out.grow hb9
              have hlook := HLK.out _ _ _ _ _ _ _ _ _ hQ9
              have HN : Hid (WaLoop w g b bl (k + 1) (.slice Al (wts ws).length cl9) (.slice A6 (alone ws).length c6) (.int .i64 (nn + 1)) w9) := Lib.hid ⟨ws, f, fl, cnt, cl, nn, vq, rfl, by omega, by omega, by omega, HP.out, hQ9⟩
              clear hQ9 hb9
              go_wp2
              go_meet
              exact HN.out
            | false =>
              by_cases hme : m = nn + 1
              rotate_left
              · have dme : (m == nn + 1) = false := by simpa using hme
                have HA := Lib.hid (sleep_late g b vq ws f cnt nn t m al wr w.heap.size hQ.q htw hm hm0 HIS.out (by omega) hme)
                have HQ := Lib.hid hQ
                have HP := Lib.hid (hP.sleep t)
                clear hP hQ hm0 hm hml hme
                go_wp2_with fail
                refine HA.out.mono ?_
                rintro e w9 ⟨rfl, hgo⟩
                obtain ⟨vq2, hQ9⟩ := HQ.out.go hgo
                have hlook := HLK.out _ _ _ _ _ _ _ _ _ hQ9
                obtain ⟨w8, hrun, hm8, hg8⟩ := hQ9.m.update (t := 78) Try.underlying3 Try.underlying3 Try.underlying78 (by unfold maxLen; omega) htw (by decide : (Lit.int .i64 0).wf = true)
                have HN : Hid (WaLoop w g b bl (k + 1) (.slice Al (wts ws).length cl9) (.slice A6 (alone ws).length c6) (.int .i64 (nn + 1)) w8) := Lib.hid ⟨ws, _, _, _, _, nn, vq2, rfl, by omega, by omega, by omega, HP.out, hQ9.setM hm8 hg8⟩
                clear hQ9 hgo hm8 hg8
                go_wp2
                go_meet
                exact HN.out
              · subst hme
                have HA := Lib.hid (sleep_ok g b vq ws f cnt nn t al wr w.heap.size hQ.q hQ.low.size htw hm HIS.out (by omega) (by omega))
                have ht := hP.fk t (by omega)
                have HPA := Lib.hid (fun al => (hP.app (al := al) ht HIS.out).sleep t)
                have HQ := Lib.hid hQ
                have HEQ := Lib.hid (show ∀ al, wts ws ++ [t] = wts (ws ++ [(⟨t, al⟩ : Wt)]) from fun al => (wts_app ws t al).symm)
                have HEA := Lib.hid (show ∀ al : Bool, (if al = true then alone ws ++ [t] else alone ws) = alone (ws ++ [(⟨t, al⟩ : Wt)]) from fun al => (alone_app ws t al).symm)
                clear hP hQ hm0 hm hml ht
                generalize hlw : (wts ws).length = lw at *
                generalize hla : (alone ws).length = la at *
                have HLW := Lib.hid hlw
                have HLA := Lib.hid hla
                clear hlw hla
                go_wp2_with fail
                refine HA.out.mono ?_
                rintro e w9 ⟨rfl, hgo⟩
                obtain ⟨vq2, hQ9⟩ := HQ.out.go hgo
                have hlook := HLK.out _ _ _ _ _ _ _ _ _ hQ9
                obtain ⟨w8, hrun, hm8, hg8⟩ := hQ9.m.update (t := 78) Try.underlying3 Try.underlying3 Try.underlying78 (by unfold maxLen; omega) htw (by decide : (Lit.int .i64 0).wf = true)
                have hQ8 := hQ9.setM hm8 hg8
                have hrow := hQ8.l
                rw [HLW.out] at hrow
                have hsz8 := hQ8.low.size
                have HQ8 := Lib.hid hQ8
                clear hQ9 hgo hm8 hg8 hQ8
                go_wp2_with (at_builtin; refine wpList_append_row _ rfl (.tmp 211) (.tmp 213) 45 rfl w.heap.size 3 i0 (.int .i64 0) 1 8 Try.underlying45 hi hz0 hz1 hz2 rfl (by decide) (.slice Al lw cl9) lw ((wts ws).map (Value.int .i64)) rfl (hrow.alloc _) (w8.heap.size + 1) (some ⟨w8.heap.size, 0, none⟩) 1 1 [.int .i64 t] rfl (reads_one w8 (.int .i64 t) 3) (by simp [Value.oneCell']) (by unfold maxLen; omega) (by omega) (by simp; omega) ?_)
                intro A10 c10 w10 hr10 hg10 ho10
                have hQ10 := HQ8.out.appL HLW.out hr10 hg10 (by simpa using ho10)
                clear hr10 hg10 ho10 hrow
                have hsz10 := hQ10.low.size
                cases al with
                | true =>
                  have hrow := hQ10.a
                  rw [HLA.out] at hrow
                  have HQ10 := Lib.hid hQ10
                  clear hQ10
                  go_wp2_with (at_builtin; refine wpList_append_row _ rfl (.tmp 216) (.tmp 218) 45 rfl w.heap.size 3 i0 (.int .i64 0) 1 8 Try.underlying45 hi hz0 hz1 hz2 rfl (by decide) (.slice A6 la c6) la ((alone ws).map (Value.int .i64)) rfl (hrow.alloc _) (w10.heap.size + 1) (some ⟨w10.heap.size, 0, none⟩) 1 1 [.int .i64 t] rfl (reads_one w10 (.int .i64 t) 3) (by simp [Value.oneCell']) (by unfold maxLen; omega) (by omega) (by simp; omega) ?_)
                  intro A11 c11 w11 hr11 hg11 ho11
                  have hQ11 := HQ10.out.appA HLA.out hr11 hg11 (by simpa using ho11)
                  have HN : Hid (WaLoop w g b bl (k + 1) (.slice A10 (lw + 1) c10) (.slice A11 (la + 1) c11) (.int .i64 (nn + 1)) w11) := Lib.hid ⟨_, _, _, _, _, nn, vq2, rfl, by omega, by omega, by omega, HPA.out true, hQ11.eqs rfl (HEQ.out true) (HEA.out true)⟩
                  clear hr11 hg11 ho11 hQ11 hrow
                  go_wp2
                  go_meet
                  exact HN.out
                | false =>
                  have HN : Hid (WaLoop w g b bl (k + 1) (.slice A10 (lw + 1) c10) (.slice A6 la c6) (.int .i64 (nn + 1)) w10) := Lib.hid ⟨_, _, _, _, _, nn, vq2, rfl, by omega, by omega, by omega, HPA.out false, hQ10.eqs rfl (HEQ.out false) (HEA.out false)⟩
                  clear hQ10
                  go_wp2
                  go_meet
                  exact HN.out
        as_aux_lemma =>
          have e1 : (y == 1) = false := by simp; omega
          have e2 : (y == 2) = false := by simp; omega
          have e3 : (y == 3) = false := by simp; omega
          have e4 : (y == 4) = false := by simp; omega
          have e5 : (y == 5) = false := by simp; omega
          have HN : Hid (WaLoop w g b bl (k + 1) (.slice Al (wts ws).length cl9) (.slice A6 (alone ws).length c6) (.int .i64 (nn + 1)) wr) := Lib.hid ⟨ws, f, fl, cnt, cl, nn, vq, rfl, by omega, by omega, by omega, hP, hQ⟩
          clear hP hQ hy1 hy2 hy3 hy4 hy5
          go_wp2
          go_meet
          exact HN.out
      case rest =>
        as_aux_lemma =>
          clear hP hQ hlen hlen2
          obtain ⟨ws', f', fl', cnt', cl', nn', vq', rfl, hc1, hc2, hc3, hP', hQ'⟩ := hcut
          obtain ⟨A5, c5, hv5, hd1, hd2⟩ := hQ'.l.shape
          subst hv5
          have hlen' := hP'.len
          have hlw : (wts ws').length ≤ 17 := by unfold wts; simpa using hlen'
          have HLI := Lib.hid (list44 g b vq' ws' f' cnt' nn' _ _ hQ'.q (by omega))
          have HQ' := Lib.hid hQ'
          have hsz9 := hQ'.low.size
          have HE8 := Lib.hid (fun A8 c8 w8 (hr8 : RD w8 w8.heap.size A8 (wts ws').length (wts ws')) (hb8 : Below _ _ w8) => equal_any A8 A5 (wts ws').length c8 (wts ws').length c5 (wts ws') (wts ws') w8 _ _ hr8 (RD.of_row (HQ'.out.grow hb8).l) (Nat.le_refl _) (Nat.le_refl _) (by omega) (by omega))
          have HN : Hid (∀ w9, Below _ _ w9 → WaLoop w g b bl (k + 1) (.slice A5 (wts ws').length c5) _ _ w9) := Lib.hid (fun w9 hb9 => ⟨ws', f', fl', cnt', cl', nn', vq', rfl, hc1, hc2, hc3, hP', HQ'.out.grow hb9⟩)
          have HD := Lib.hid (decide_eq_true (rfl : wts ws' = wts ws'))
          clear hQ' hP' HQ'
          go_wp2_with fail
          refine HLI.out.mono ?_
          rintro e w8 ⟨A8, c8, rfl, hr8, hb8⟩
          have HE9 := Lib.hid (HE8.out A8 c8 w8 hr8 hb8)
          rw [HD.out] at HE9
          generalize (wts ws').length = lw at *
          clear hr8 HE8 HLI
          go_wp2_with fail
          refine HE9.out.mono ?_
          rintro e w9 ⟨rfl, hb9'⟩
          have HN9 := Lib.hid (HN.out w9 (hb8.trans (hb9'.mono hb8.size)))
          clear HN HE9 hb8 hb9'
          go_wp2
          go_roundw
          case rel => exact ⟨k + 1, by omega, by go_num, HN9.out⟩
          case measure => simp [intOf]; omega
end Go.Proofs.Ytenhcpobncmedaa
