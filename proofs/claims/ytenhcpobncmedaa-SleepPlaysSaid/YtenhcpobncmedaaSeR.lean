/- The law ringlaw1.SleepPlays: its walk. -/
import Derived.Test.YtenhcpobncmedaaSeQ
import Derived.Deep.CutBlock
import Derived.Deep.DeepCutAuto
import Derived.Deep.RegionLaw
import Derived.Test.YtenhcpobncmedaaOwnC
import Derived.Deep.Light
namespace Go.Proofs.Ytenhcpobncmedaa
open Go.RowKit Go.Maps
set_option maxHeartbeats 600000
set_option linter.unusedVariables false
set_option linter.unusedSimpArgs false
theorem se_task23 (t : Int) (w : World) : Calls Try.prog 23 #[.int .i64 t] w fun e w' => e = .returned (.bool (decide (1 ≤ t ∧ t ≤ 16))) ∧ w = w' := by
  by_cases h1 : 1 ≤ t
  · have d1 : decide (1 ≤ t) = true := by simpa using h1
    by_cases h2 : t ≤ 16
    · have H := Lib.hid (decide_eq_true (show 1 ≤ t ∧ t ≤ 16 from ⟨h1, h2⟩))
      have d2 : decide (t ≤ 16) = true := by simpa using h2
      rw [H.out]
      clear h1 h2
      go_enter Try.func23, Try.ntmps23
      go_wp2
      go_ret
      exact ⟨rfl, rfl⟩
    · have H := Lib.hid (decide_eq_false (show ¬ (1 ≤ t ∧ t ≤ 16) from fun h => h2 h.2))
      have d2 : decide (t ≤ 16) = false := by simpa using h2
      rw [H.out]
      clear h1 h2
      go_enter Try.func23, Try.ntmps23
      go_wp2
      go_ret
      exact ⟨rfl, rfl⟩
  · have H := Lib.hid (decide_eq_false (show ¬ (1 ≤ t ∧ t ≤ 16) from fun h => h1 h.1))
    have d1 : decide (1 ≤ t) = false := by simpa using h1
    rw [H.out]
    clear h1
    go_enter Try.func23, Try.ntmps23
    go_wp2
    go_ret
    exact ⟨rfl, rfl⟩
theorem se_task_is {b : Bool} (t : Int) (w : World) (h : decide (1 ≤ t ∧ t ≤ 16) = b) : Calls Try.prog 23 #[.int .i64 t] w fun e w' => e = .returned (.bool b) ∧ w = w' := h ▸ se_task23 t w
def ls1 : LkS := taskS lk0 1 5
theorem ls1_ok : LkOk ls1 := taskS_ok lk0_ok 1 5
theorem ls1_E : taskE 1 5 = 0 := by simp [taskE]
theorem ls1_P : (ls1.P 1).isSome = true := by simp [ls1, taskS]
theorem ls1_w : wfor ls1.F 1 = none := wfor_none.2 (fun k _ h => by simp [ls1, taskS, lk0] at h)
theorem ls1_O : ls1.O 0 = 0 := by simp [ls1, taskS, lk0]
noncomputable def ls2 : LkS := takeS ls1 1 0
theorem ls1_i : isE ls1 1 0 = 0 := by simp [isE, ls1_P]
theorem ls2_E : takeE ls1 1 0 = 0 := by simp [takeE, ls1_i, ls1_w, ls1_O]
theorem ls2_is : ls2 = ⟨ls1.P, updV ls1.O 0 1, ls1.F⟩ := by simp [ls2, takeS, ls1_i, ls1_w, ls1_O]
theorem ls2_ok : LkOk ls2 := takeS_ok ls1_ok 1 0
theorem ls3_E : takeE ls2 1 0 = 18 := by
  have e1 : isE ls2 1 0 = 0 := by rw [ls2_is]; simp [isE, ls1_P]
  have e2 : wfor ls2.F 1 = none := by rw [ls2_is]; exact ls1_w
  have e3 : ls2.O 0 = 1 := by rw [ls2_is]; exact updV_same ls1.O 0 (1 : Int)
  have e4 : Reach ls2 1 1 := .refl 1
  simp [takeE, e1, e2, e3, e4]
/-- Between two plays. -/
def SlL (w : World) (g bp bf q bq k : Nat) (wr : World) : Prop := ∃ s np nf nq, LkOk s ∧ np ≤ k ∧ nf ≤ k ∧ nq ≤ k ∧ Two w g bp bf q bq np nf nq s s wr
theorem wf1 : (Lit.int .i64 1).wf = true := by decide
set_option maxHeartbeats 16000000 in
set_option maxRecDepth 100000 in
theorem law_sleepPlays (A : Option Addr) (n c : Nat) (ps : List Pl) (w : World) (h : RPl w w.heap.size A n ps) (hn : n ≤ 5864062014634) :
    Calls Try.prog 8 #[.slice A n c] w fun e w' => e = .returned (.bool true) ∧ Below w.heap.size w w' := by
  obtain ⟨i0, ii, hz0, hz1, hz2⟩ := info_parts Try.infoI
  go_enter Try.func8, Try.ntmps8
  go_wp2_with fail
  refine (new51 w w.heap.size (Nat.le_refl _)).mono ?_
  rintro e w1 ⟨g0, bp0, bf0, vs0, rfl, hP0, hb1, -⟩
  go_wp2_with fail
  refine (task52 hP0 1 5 (by omega)).mono ?_
  rintro e w2 ⟨rfl, np1, nf1, hnp1, hnf1, vs1, hP1, hf1, -⟩
  rw [ls1_E]
  have hb2 : Below w.heap.size w w2 := hb1.trans (hf1.below hb1.size (fun k hk => (hP0.lt k hk).1))
  go_wp2_with fail
  refine (take53 ls1_ok hP1 hb2.size 1 0 wf1 (by omega)).mono ?_
  rintro e w3 ⟨rfl, np2, nf2, hnp2, hnf2, vs2, hP2, hf2, -⟩
  rw [ls2_E]
  have hb3 : Below w.heap.size w w3 := hb2.trans (hf2.below hb2.size (fun k hk => (hP1.lt k hk).1))
  clear hP0 hf1 hb1
  go_wp2_with fail
  refine (take53 ls2_ok hP2 hb3.size 1 0 wf1 (by omega)).mono ?_
  rintro e w4 ⟨rfl, np3, nf3, hnp3, hnf3, vs3, hP3, hf3, -⟩
  rw [ls3_E]
  have hb4 : Below w.heap.size w w4 := hb3.trans (hf3.below hb3.size (fun k hk => (hP2.lt k hk).1))
  clear hP1 hf2 hb2 hP2 hP3 hf3 hb3
  go_wp2_with fail
  refine (new51 w4 w.heap.size hb4.size).mono ?_
  rintro e w5 ⟨g, bp, bf, vs, rfl, hP5, hb5, ho5⟩
  have hb6 : Below w.heap.size w w5 := hb4.trans (hb5.mono hb4.size)
  go_wp2_with fail
  refine (new54 w5 w.heap.size hb6.size).mono ?_
  rintro e w6 ⟨q, bq, rs, rfl, hM6, hb7, ho7⟩
  have hT0 : SlL w g bp bf q bq 0 w6 := ⟨lk0, 0, 0, 0, lk0_ok, by omega, by omega, by omega, vs, rs, hP5.grow hb7, hM6, fun j hj hj' => by have h1 := (hP5.lt j hj).2; have h2 := ho7 j hj'; omega, hb6.trans (hb7.mono hb6.size)⟩
  clear hP5 hM6 hb7 ho7 hb6 hb5 ho5 hb4
  go_wp2_with fail
  go_loopw [42] (fun i wr => ∃ k : Nat, k ≤ n ∧ i = .int .i64 k ∧ SlL w g bp bf q bq k wr) (fun i _ => n - (intOf i).toNat)
  case atStart => exact ⟨0, by omega, rfl, hT0⟩
  case round =>
    clear hT0
    obtain ⟨k9, hk9, rfl, s, np, nf, nq, hs, hnp, hnf, hnq, hT⟩ := hrel
    have hlow := hT.low
    by_cases hlt : k9 < n
    rotate_left
    · obtain rfl : k9 = n := by omega
      clear hT hs
      go_wp2
      go_ret
      exact ⟨rfl, hlow⟩
    · obtain ⟨b9, o9, rfl, hb9, hcell, hfine⟩ := (h.below' hlow (Nat.le_refl _)).at_ hlt
      generalize ps.getD k9 .zero = p at *
      obtain ⟨Ap, npp, cp, xs⟩ := p
      obtain ⟨hri, hnpp⟩ := hfine
      dsimp only at hcell hri hnpp
      have hkn : (k9 : Int) < n := by omega
      have ht := RI.rng hri 1 (by decide)
      have hkw := RI.rng hri 2 (by decide)
      have hRD : RD wr w.heap.size Ap npp xs := RD.of_ri hri
      clear hri
      go_wp2_with fail
      refine (at_any Ap npp cp xs 1 _ _ hRD hnpp (by omega)).mono ?_
      rintro e w4 ⟨rfl, rfl⟩
      generalize xs.getD 1 0 = t at *
      go_wp2_with fail
      refine (at_any Ap npp cp xs 2 _ _ hRD hnpp (by omega)).mono ?_
      rintro e w4 ⟨rfl, rfl⟩
      generalize xs.getD 2 0 = k at *
      have hq0 := hT.rdM.hp
      have hlk := hT.rdM.look ht
      have HT := Lib.hid hT
      have HS := Lib.hid hs
      have HLOW := Lib.hid hlow
      obtain ⟨er, her⟩ : ∃ er, isE s t k = er := ⟨_, rfl⟩
      have HER := Lib.hid her
      obtain ⟨th, hth⟩ : ∃ th, (s.P t).isSome = th := ⟨_, rfl⟩
      rw [hth] at hlk
      have HTH := Lib.hid hth
      generalize (s.P t).getD 0 = pp at *
      clear hT hs hlow her hth
      go_upto_block 2 with fail
      go_cut [12] (fun s12 wx => s12 = .int .i64 er ∧ wx = wr)
      case first =>
        by_cases h1 : k < 0
        · have HE : Hid (er = 1) := Lib.hid (by rw [← HER.out]; exact if_pos (.inl h1))
          have d1 : decide (k < 0) = true := by simpa using h1
          clear h1
          go_wp2
          go_meet
          exact ⟨by rw [HE.out], rfl⟩
        have d1 : decide (k < 0) = false := by simpa using h1
        by_cases h2 : 15 < k
        · have HE : Hid (er = 1) := Lib.hid (by rw [← HER.out]; exact if_pos (.inr h2))
          have d2 : decide (15 < k) = true := by simpa using h2
          clear h1 h2
          go_wp2
          go_meet
          exact ⟨by rw [HE.out], rfl⟩
        have d2 : decide (15 < k) = false := by simpa using h2
        cases th with
        | false =>
          have HE : Hid (er = 4) := Lib.hid (by rw [← HER.out]; unfold isE; rw [if_neg (by omega), if_neg (by rw [HTH.out]; simp)])
          clear h1 h2
          go_wp2
          go_meet
          exact ⟨by rw [HE.out], rfl⟩
        | true =>
          have HE : Hid (er = 0) := Lib.hid (by rw [← HER.out]; unfold isE; rw [if_neg (by omega), if_pos HTH.out])
          clear h1 h2
          go_wp2
          go_meet
          exact ⟨by rw [HE.out], rfl⟩
      case rest =>
        obtain ⟨rfl, hwx⟩ := hcut
        have hwy := hwx.symm
        clear hwx hlk
        subst hwy
        go_wp2_with fail
        refine (at_any Ap npp cp xs 0 _ _ hRD hnpp (by omega)).mono ?_
        rintro e w4 ⟨rfl, rfl⟩
        generalize xs.getD 0 0 = y at *
        clear hRD hcell
        go_upto_block 3 with fail
        go_cut [13, 14, 15, 16, 17, 18, 19] (fun s13 s14 s15 s16 s17 s18 s19 wx => SlL w g bp bf q bq (k9 + 1) wx)
        case first =>
          by_cases hy1 : y = 1
          · as_aux_lemma =>
              have e1 : (y == 1) = true := by simpa using hy1
              clear hy1
              by_cases ht1 : 1 ≤ t ∧ t ≤ 16
              rotate_left
              · have HTT := Lib.hid (se_task_is t wr (decide_eq_false ht1))
                have E1 : taskE t k = 1 := if_pos (by omega)
                have E2 : taskS s t k = s := if_pos (by omega)
                have HTK := Lib.hid (HT.out.task t k (by omega))
                rw [E1, E2] at HTK
                clear E1 E2 ht1
                go_wp2_with fail
                refine HTT.out.mono ?_
                rintro e w9 ⟨rfl, rfl⟩
                go_wp2_with fail
                refine HTK.out.mono ?_
                rintro e w9 ⟨rfl, np9, nf9, a1, a2, h9⟩
                have HN : Hid (SlL w g bp bf q bq (k9 + 1) w9) := Lib.hid ⟨s, np9, nf9, nq, HS.out, by omega, by omega, by omega, h9⟩
                clear h9
                go_wp2
                go_meet
                exact HN.out
              have HTT := Lib.hid (se_task_is t wr (decide_eq_true ht1))
              by_cases h1 : k < 0
              · have d1 : decide (k < 0) = true := by simpa using h1
                have E1 : taskE t k = 1 := if_pos (by omega)
                have E2 : taskS s t k = s := if_pos (by omega)
                have HTK := Lib.hid (HT.out.task t k (by omega))
                rw [E1, E2] at HTK
                clear E1 E2 h1 ht1
                go_wp2_with fail
                refine HTT.out.mono ?_
                rintro e w9 ⟨rfl, rfl⟩
                go_wp2_with fail
                refine HTK.out.mono ?_
                rintro e w9 ⟨rfl, np9, nf9, a1, a2, h9⟩
                have HN : Hid (SlL w g bp bf q bq (k9 + 1) w9) := Lib.hid ⟨s, np9, nf9, nq, HS.out, by omega, by omega, by omega, h9⟩
                clear h9
                go_wp2
                go_meet
                exact HN.out
              have d1 : decide (k < 0) = false := by simpa using h1
              by_cases h2 : 7 < k
              · have d2 : decide (7 < k) = true := by simpa using h2
                have E1 : taskE t k = 1 := if_pos (by omega)
                have E2 : taskS s t k = s := if_pos (by omega)
                have HTK := Lib.hid (HT.out.task t k (by omega))
                rw [E1, E2] at HTK
                clear E1 E2 h1 h2 ht1
                go_wp2_with fail
                refine HTT.out.mono ?_
                rintro e w9 ⟨rfl, rfl⟩
                go_wp2_with fail
                refine HTK.out.mono ?_
                rintro e w9 ⟨rfl, np9, nf9, a1, a2, h9⟩
                have HN : Hid (SlL w g bp bf q bq (k9 + 1) w9) := Lib.hid ⟨s, np9, nf9, nq, HS.out, by omega, by omega, by omega, h9⟩
                clear h9
                go_wp2
                go_meet
                exact HN.out
              have d2 : decide (7 < k) = false := by simpa using h2
              obtain ⟨w2, hup, hT2⟩ := HT.out.setP ht hkw (by omega)
              have E1 : taskE t k = 0 := if_neg (by omega)
              have E2 : taskS s t k = ⟨fun z => if z = t then some k else s.P z, s.O, s.F⟩ := if_neg (by omega)
              have HTK := Lib.hid (hT2.task t k (by omega))
              rw [E1, E2] at HTK
              have HOK := Lib.hid (taskS_ok HS.out t k)
              rw [E2] at HOK
              clear E1 E2 hT2 h1 h2 ht1
              go_wp2_with fail
              refine HTT.out.mono ?_
              rintro e w9 ⟨rfl, rfl⟩
              go_wp2_with fail
              refine HTK.out.mono ?_
              rintro e w9 ⟨rfl, np9, nf9, a1, a2, h9⟩
              have HN : Hid (SlL w g bp bf q bq (k9 + 1) w9) := Lib.hid ⟨_, np9, nf9, nq + 1, HOK.out, by omega, by omega, by omega, h9⟩
              clear h9
              go_wp2
              go_meet
              exact HN.out
          by_cases hy2 : y = 2
          · as_aux_lemma =>
              have e1 : (y == 1) = false := by simpa using hy1
              have e2 : (y == 2) = true := by simpa using hy2
              clear hy1 hy2
              by_cases he0 : er = 0
              rotate_left
              · have d1 : (er == 0) = false := by simpa using he0
                have d2 : (er != er) = false := by simp
                have E1 : takeE s t k = er := by unfold takeE; rw [HER.out]; exact if_pos he0
                have E2 : takeS s t k = s := by unfold takeS; rw [HER.out]; exact if_pos he0
                have HTK := Lib.hid (HT.out.take HS.out t k ht (by omega))
                rw [E1, E2] at HTK
                clear E1 E2 he0
                go_wp2_with fail
                refine HTK.out.mono ?_
                rintro e w9 ⟨rfl, np9, nf9, a1, a2, h9⟩
                have HN : Hid (SlL w g bp bf q bq (k9 + 1) w9) := Lib.hid ⟨_, np9, nf9, nq, HS.out, by omega, by omega, by omega, h9⟩
                clear h9
                go_wp2
                go_meet
                exact HN.out
              subst he0
              obtain ⟨hk0, hk16, hP⟩ := isE_zero HER.out
              obtain ⟨kn, rfl⟩ : ∃ kn : Nat, k = kn := ⟨k.toNat, by omega⟩
              have hkn : kn < 16 := by omega
              have HTN : Int.toNat (kn : Int) = kn := Int.toNat_natCast kn
              have HTNX := Lib.hid HTN
              clear HTN
              have HR := Lib.hid HT.out.rdM
              have HF := Lib.hid (for55 HR.out t)
              have hok := HR.out.ho kn hkn
              cases hw : wfor s.F t with
              | some j =>
                have E1 : takeE s t kn = 8 := by simp [takeE, HER.out, hw]
                have E2 : takeS s t kn = s := by simp [takeS, HER.out, hw]
                have E3 : forI s.F t = j := forI_some hw
                have HTK := Lib.hid (HT.out.take HS.out t kn ht (by omega))
                rw [E1, E2] at HTK
                rw [E3] at HF
                have d3 : decide (0 ≤ (j : Int)) = true := by simp
                clear E1 E2 E3 hw
                go_wp2_with fail
                refine HF.out.mono ?_
                rintro e w9 ⟨rfl, rfl⟩
                go_wp2_with fail
                refine HTK.out.mono ?_
                rintro e w9 ⟨rfl, np9, nf9, a1, a2, h9⟩
                have HN : Hid (SlL w g bp bf q bq (k9 + 1) w9) := Lib.hid ⟨_, np9, nf9, nq, HS.out, by omega, by omega, by omega, h9⟩
                clear h9
                go_wp2
                go_meet
                exact HN.out
              | none =>
                have E3 : forI s.F t = -1 := forI_no hw
                rw [E3] at HF
                by_cases ho : s.O kn = 0
                · have E1 : takeE s t kn = 0 := by simp [takeE, HER.out, hw, ho]
                  have E2 : takeS s t kn = ⟨s.P, updV s.O kn t, s.F⟩ := by simp [takeS, HER.out, hw, ho]
                  have hT2 := HT.out.setO hkn t
                  have HTK := Lib.hid (hT2.take HS.out t kn ht (by omega))
                  rw [E1, E2] at HTK
                  have HOK := Lib.hid (takeS_ok HS.out t kn)
                  rw [E2] at HOK
                  obtain ⟨hfz, hgl⟩ := HT.out.frz
                  rw [ho] at hok
                  clear E1 E2 E3 hw hT2 ho
                  go_wp2_with fail
                  refine HF.out.mono ?_
                  rintro e w9 ⟨rfl, rfl⟩
                  go_wp2_with fail
                  refine HTK.out.mono ?_
                  rintro e w9 ⟨rfl, np9, nf9, a1, a2, h9⟩
                  have HN : Hid (SlL w g bp bf q bq (k9 + 1) w9) := Lib.hid ⟨_, np9, nf9, nq, HOK.out, by omega, by omega, by omega, h9⟩
                  clear h9
                  go_wp2
                  go_meet
                  exact HN.out
                · have d0 : (s.O kn == 0) = false := by simpa using ho
                  by_cases hR : Reach s (s.O kn) t
                  · have E1 : takeE s t kn = 18 := by simp [takeE, HER.out, hw, ho, hR]
                    have E2 : takeS s t kn = s := by simp [takeS, HER.out, hw, ho, hR]
                    have HON := Lib.hid (on56 HS.out HR.out kn t hkn ho true ⟨fun _ => hR, fun _ => rfl⟩)
                    have HTKW := Lib.hid (fun w4 (hb : Below wr.heap.size wr w4) => (HT.out.grow hb).take HS.out t kn ht (by omega))
                    rw [E1, E2] at HTKW
                    generalize s.O kn = o at *
                    clear E1 E2 E3 hw ho hR
                    go_wp2_with fail
                    refine HF.out.mono ?_
                    rintro e w9 ⟨rfl, rfl⟩
                    go_wp2_with fail
                    refine HON.out.mono ?_
                    rintro e w4 ⟨rfl, hb4⟩
                    have HTK := Lib.hid (HTKW.out w4 hb4)
                    clear hb4
                    go_wp2_with fail
                    refine HTK.out.mono ?_
                    rintro e w9 ⟨rfl, np9, nf9, a1, a2, h9⟩
                    have HN : Hid (SlL w g bp bf q bq (k9 + 1) w9) := Lib.hid ⟨_, np9, nf9, nq, HS.out, by omega, by omega, by omega, h9⟩
                    clear h9
                    go_wp2
                    go_meet
                    exact HN.out
                  · have E1 : takeE s t kn = 9 := by simp [takeE, HER.out, hw, ho, hR]
                    have E2 : takeS s t kn = ⟨s.P, s.O, updV s.F kn (s.F kn ++ [t])⟩ := by simp [takeS, HER.out, hw, ho, hR]
                    have HON := Lib.hid (on56 HS.out HR.out kn t hkn ho false ⟨fun h => (by cases h), fun h => absurd h hR⟩)
                    have HAPW := Lib.hid (fun w4 (hb : Below wr.heap.size wr w4) => (HT.out.grow hb).app hkn t)
                    have HTKW := Lib.hid (fun W (hT : Two w g bp bf q bq np nf nq s ⟨s.P, s.O, updV s.F kn (s.F kn ++ [t])⟩ W) => hT.take HS.out t kn ht (by omega))
                    rw [E1, E2] at HTKW
                    have HOK := Lib.hid (takeS_ok HS.out t kn)
                    rw [E2] at HOK
                    have hln := HS.out.len hkn
                    have HBW := Lib.hid HLOW.out.size
                    generalize s.O kn = o at *
                    generalize hol : (s.F kn).length = ol at *
                    clear E1 E2 E3 hw ho hR
                    go_wp2_with fail
                    refine HF.out.mono ?_
                    rintro e w9 ⟨rfl, rfl⟩
                    go_wp2_with fail
                    refine HON.out.mono ?_
                    rintro e w4 ⟨rfl, hb4⟩
                    obtain ⟨A2, c2, hcv, hc1, hc2, hrow, HAP1, HAP2⟩ := HAPW.out w4 hb4
                    have hgl4 := pr_lt_cell hcv
                    have HA1 := Lib.hid HAP1
                    have HA2 := Lib.hid HAP2
                    have hb4s : w.heap.size ≤ w4.heap.size := Nat.le_trans HBW.out hb4.size
                    clear hb4 HAP1 HAP2 hok
                    go_wp2_with fail
                    have HROW := Lib.hid hrow
                    clear hrow
                    refine FR.wp_region_walk (AppF w.heap.size 3 1 w4.heap.size A2 ol c2 (ol + 1) (((s.F kn).map (Value.int .i64)) ++ [.int .i64 t])) (fun w' => Fr (fun k => (Value.slice A2 ol c2).ownBlock = some k) w4 w' ∧ Row w' w.heap.size 3 1 (.slice A2 ol c2) ol ((s.F kn).map (Value.int .i64))) [[], [], [], [], [(103, 2)], [(105, 4)], [(106, 5), (104, 3)], [(107, 6)], [], [(109, 8)], [(108, 7), (110, 9)], [(101, 0)], [(112, 11)], [(113, 12), (102, 1)]]
                      [(101, 0), (102, 1), (103, 2), (104, 3), (105, 4), (106, 5), (107, 6), (108, 7), (109, 8), (110, 9), (111, 10), (112, 11), (113, 12), (114, 13)] (by kernel_rfl) (by kernel_rfl) (by kernel_rfl) ⟨(Fr.refl _ _).drew, HROW.out.drew⟩ ?_
                    apply FR.Flow.det_step
                    · go_light
                      intro w1 hC1
                      simp only [FR.Flow.fill, FR.Flow.after, FR.Flow.at_, List.nil_append, List.cons_append, List.getD_cons_zero, List.getD_cons_succ, FR.det, forall_eq, List.setIfInBounds_toArray, List.set_cons_zero, List.set_cons_succ, List.drop, List.length]
                      obtain ⟨hf, hr⟩ := hC1
                      obtain ⟨k17, kfz, kgl⟩ := HA1.out w1 hf; have s1 := hf.size
                      go_wp2
                      exact FR.Flow.post_det ⟨hf, hr⟩ (AppF.refl _) rfl rfl
                    apply FR.Flow.det_step
                    · go_light
                      intro w1 hC1
                      simp only [FR.Flow.fill, FR.Flow.after, FR.Flow.at_, List.nil_append, List.cons_append, List.getD_cons_zero, List.getD_cons_succ, FR.det, forall_eq, List.setIfInBounds_toArray, List.set_cons_zero, List.set_cons_succ, List.drop, List.length]
                      obtain ⟨hf, hr⟩ := hC1
                      obtain ⟨k17, kfz, kgl⟩ := HA1.out w1 hf; have s1 := hf.size
                      go_wp2
                      exact FR.Flow.post_det ⟨hf, hr⟩ (AppF.refl _) rfl rfl
                    apply FR.Flow.det_step
                    · go_light
                      intro w1 hC1
                      simp only [FR.Flow.fill, FR.Flow.after, FR.Flow.at_, List.nil_append, List.cons_append, List.getD_cons_zero, List.getD_cons_succ, FR.det, forall_eq, List.setIfInBounds_toArray, List.set_cons_zero, List.set_cons_succ, List.drop, List.length]
                      obtain ⟨hf, hr⟩ := hC1
                      obtain ⟨k17, kfz, kgl⟩ := HA1.out w1 hf; have s1 := hf.size
                      go_wp2
                      exact FR.Flow.post_det ⟨hf, hr⟩ (AppF.refl _) rfl rfl
                    apply FR.Flow.det_step
                    · go_light
                      intro w1 hC1
                      simp only [FR.Flow.fill, FR.Flow.after, FR.Flow.at_, List.nil_append, List.cons_append, List.getD_cons_zero, List.getD_cons_succ, FR.det, forall_eq, List.setIfInBounds_toArray, List.set_cons_zero, List.set_cons_succ, List.drop, List.length]
                      obtain ⟨hf, hr⟩ := hC1
                      obtain ⟨k17, kfz, kgl⟩ := HA1.out w1 hf; have s1 := hf.size
                      go_wp2
                      exact FR.Flow.post_det ⟨hf, hr⟩ (AppF.refl _) rfl rfl
                    apply FR.Flow.det_step
                    · go_light
                      intro w1 hC1
                      simp only [FR.Flow.fill, FR.Flow.after, FR.Flow.at_, List.nil_append, List.cons_append, List.getD_cons_zero, List.getD_cons_succ, FR.det, forall_eq, List.setIfInBounds_toArray, List.set_cons_zero, List.set_cons_succ, List.drop, List.length]
                      obtain ⟨hf, hr⟩ := hC1
                      obtain ⟨k17, kfz, kgl⟩ := HA1.out w1 hf; have s1 := hf.size
                      go_wp2
                      exact FR.Flow.post_det ⟨hf, hr⟩ (AppF.refl _) rfl rfl
                    apply FR.Flow.det_step
                    · go_light
                      intro w1 hC1
                      simp only [FR.Flow.fill, FR.Flow.after, FR.Flow.at_, List.nil_append, List.cons_append, List.getD_cons_zero, List.getD_cons_succ, FR.det, forall_eq, List.setIfInBounds_toArray, List.set_cons_zero, List.set_cons_succ, List.drop, List.length]
                      obtain ⟨hf, hr⟩ := hC1
                      obtain ⟨k17, kfz, kgl⟩ := HA1.out w1 hf; have s1 := hf.size
                      go_wp2
                      exact FR.Flow.post_det ⟨hf, hr⟩ (AppF.refl _) rfl rfl
                    apply FR.Flow.det_step
                    · go_light
                      intro w1 hC1
                      simp only [FR.Flow.fill, FR.Flow.after, FR.Flow.at_, List.nil_append, List.cons_append, List.getD_cons_zero, List.getD_cons_succ, FR.det, forall_eq, List.setIfInBounds_toArray, List.set_cons_zero, List.set_cons_succ, List.drop, List.length]
                      obtain ⟨hf, hr⟩ := hC1
                      obtain ⟨k17, kfz, kgl⟩ := HA1.out w1 hf; have s1 := hf.size
                      go_wp2
                      exact FR.Flow.post_det ⟨hf, hr⟩ (AppF.refl _) rfl rfl
                    apply FR.Flow.det_step
                    · go_light
                      intro w1 hC1
                      simp only [FR.Flow.fill, FR.Flow.after, FR.Flow.at_, List.nil_append, List.cons_append, List.getD_cons_zero, List.getD_cons_succ, FR.det, forall_eq, List.setIfInBounds_toArray, List.set_cons_zero, List.set_cons_succ, List.drop, List.length]
                      obtain ⟨hf, hr⟩ := hC1
                      obtain ⟨k17, kfz, kgl⟩ := HA1.out w1 hf; have s1 := hf.size
                      go_wp2
                      exact FR.Flow.post_det ⟨hf, hr⟩ (AppF.refl _) rfl rfl
                    apply FR.Flow.det_step
                    · go_light
                      intro w1 hC1
                      simp only [FR.Flow.fill, FR.Flow.after, FR.Flow.at_, List.nil_append, List.cons_append, List.getD_cons_zero, List.getD_cons_succ, FR.det, forall_eq, List.setIfInBounds_toArray, List.set_cons_zero, List.set_cons_succ, List.drop, List.length]
                      obtain ⟨hf, hr⟩ := hC1
                      obtain ⟨k17, kfz, kgl⟩ := HA1.out w1 hf; have s1 := hf.size
                      go_wp2
                      exact FR.Flow.post_det ⟨hf, hr⟩ (AppF.refl _) rfl rfl
                    refine FR.Flow.st_step (bufSt w.heap.size 3 1 w4.heap.size A2 ol c2 (ol + 1) (((s.F kn).map (Value.int .i64)) ++ [.int .i64 t]) (fun g => .slice (some ⟨g, 0, none⟩) 1 1) [.int .i64 t]) ?_ ?_
                    · go_light
                      intro w1 hC1
                      simp only [FR.Flow.fill, FR.Flow.after, FR.Flow.at_, List.nil_append, List.cons_append, List.getD_cons_zero, List.getD_cons_succ, FR.det, forall_eq, List.setIfInBounds_toArray, List.set_cons_zero, List.set_cons_succ, List.drop, List.length]
                      obtain ⟨hf, hr⟩ := hC1
                      obtain ⟨k17, kfz, kgl⟩ := HA1.out w1 hf; have s1 := hf.size
                      go_wp2
                      exact FR.Flow.post_st ⟨hf.alloc _, hr.alloc _⟩ (AppF.alloc _ _) rfl rfl (buf_alloc w1 3 [.int .i64 t] _ rfl (by rfl) (fun k hk => (hr.lt k hk).2) s1)
                    refine FR.Flow.st_step (appfSt w.heap.size 3 1 w4.heap.size A2 ol c2 (ol + 1) (((s.F kn).map (Value.int .i64)) ++ [.int .i64 t])) ?_ ?_
                    · go_light
                      intro w1 hC1
                      simp only [FR.Flow.fill, FR.Flow.after, FR.Flow.at_, List.nil_append, List.cons_append, List.getD_cons_zero, List.getD_cons_succ, FR.det, forall_eq, List.setIfInBounds_toArray, List.set_cons_zero, List.set_cons_succ, List.drop, List.length]
                      rintro _ ⟨g6, rfl, hg6n, hg6s, hg6, hcs6⟩
                      obtain ⟨hf, hr⟩ := hC1
                      obtain ⟨k17, kfz, kgl⟩ := HA1.out w1 hf; have s1 := hf.size
                      refine wpList_append_row_at w1 rfl (.tmp 108) (.tmp 110) 45 rfl w.heap.size 3 i0 (.int .i64 0) 1 8 Try.underlying45 ii hz0 hz1 hz2 rfl (by decide) A2 ol c2 ((s.F kn).map (Value.int .i64)) rfl hr _ (some ⟨g6, 0, none⟩) 1 1 [.int .i64 t] rfl (buf_reads rfl hg6 hcs6) (by simp [Value.oneCell']) (by unfold maxLen; omega) (by omega) (Nat.le_trans hb4s s1) (by decide) w4.heap.size s1 (fun k hk => (HROW.out.lt k hk).2) ?_
                      intro A9 c9 w9 hA9 hR9 hr9 hg9
                      exact FR.Flow.post_st ⟨hf.grown hg9 (fun k e _ => e), hr9⟩ hR9 rfl rfl ⟨A9, c9, rfl, hA9⟩
                    apply FR.Flow.det_step
                    · go_light
                      intro w1 hC1
                      simp only [FR.Flow.fill, FR.Flow.after, FR.Flow.at_, List.nil_append, List.cons_append, List.getD_cons_zero, List.getD_cons_succ, FR.det, forall_eq, List.setIfInBounds_toArray, List.set_cons_zero, List.set_cons_succ, List.drop, List.length]
                      obtain ⟨hf, hr⟩ := hC1
                      obtain ⟨k17, kfz, kgl⟩ := HA1.out w1 hf; have s1 := hf.size
                      go_wp2
                      exact FR.Flow.post_det ⟨hf, hr⟩ (AppF.refl _) rfl rfl
                    apply FR.Flow.det_step
                    · go_light
                      intro w1 hC1
                      simp only [FR.Flow.fill, FR.Flow.after, FR.Flow.at_, List.nil_append, List.cons_append, List.getD_cons_zero, List.getD_cons_succ, FR.det, forall_eq, List.setIfInBounds_toArray, List.set_cons_zero, List.set_cons_succ, List.drop, List.length]
                      obtain ⟨hf, hr⟩ := hC1
                      obtain ⟨k17, kfz, kgl⟩ := HA1.out w1 hf; have s1 := hf.size
                      go_wp2
                      exact FR.Flow.post_det ⟨hf, hr⟩ (AppF.refl _) rfl rfl
                    apply FR.Flow.det_step
                    · go_light
                      intro w1 hC1
                      simp only [FR.Flow.fill, FR.Flow.after, FR.Flow.at_, List.nil_append, List.cons_append, List.getD_cons_zero, List.getD_cons_succ, FR.det, forall_eq, List.setIfInBounds_toArray, List.set_cons_zero, List.set_cons_succ, List.drop, List.length]
                      obtain ⟨hf, hr⟩ := hC1
                      obtain ⟨k17, kfz, kgl⟩ := HA1.out w1 hf; have s1 := hf.size
                      go_wp2
                      exact FR.Flow.post_det ⟨hf, hr⟩ (AppF.refl _) rfl rfl
                    intro w1 hC1
                    simp only [FR.Flow.fill, FR.Flow.after, FR.Flow.at_, List.nil_append, List.cons_append, List.getD_cons_zero, List.getD_cons_succ, FR.det, forall_eq, List.setIfInBounds_toArray, List.set_cons_zero, List.set_cons_succ, List.drop, List.length]
                    rintro _ ⟨g6, rfl, hg6n, hg6s, hg6, hcs6⟩ _ ⟨A9, c9, rfl, hA9⟩
                    obtain ⟨hf, hr⟩ := hC1
                    obtain ⟨k17, kfz, kgl⟩ := HA1.out w1 hf; have s1 := hf.size
                    have hT5 := HA2.out w1 A9 c9 hf hA9.row (fun j hj => by
                      rcases hA9.own (n := ol) with h1 | ⟨gg, h1, h2⟩
                      · exact .inl (h1 ▸ hj)
                      · rw [h1] at hj; injection hj with hj; exact .inr (by omega))
                    have HTK := Lib.hid (HTKW.out _ hT5)
                    clear hT5 hA9 hcs6 hr hf s1 hg6 hg6s hg6n hcv
                    go_wp2_with fail
                    refine HTK.out.mono ?_
                    rintro e w9 ⟨rfl, np9, nf9, a1, a2, h9⟩
                    have HN : Hid (SlL w g bp bf q bq (k9 + 1) w9) := Lib.hid ⟨_, np9, nf9, nq, HOK.out, by omega, by omega, by omega, h9⟩
                    clear h9
                    go_wp2
                    go_meet
                    exact HN.out
          by_cases hy3 : y = 3
          · as_aux_lemma =>
              have e1 : (y == 1) = false := by simpa using hy1
              have e2 : (y == 2) = false := by simpa using hy2
              have e3 : (y == 3) = true := by simpa using hy3
              clear hy1 hy2 hy3
              by_cases he0 : er = 0
              rotate_left
              · have d1 : (er == 0) = false := by simpa using he0
                have d2 : (er != er) = false := by simp
                have E1 : freeE s t k = er := by unfold freeE; rw [HER.out]; exact if_pos he0
                have E2 : freeV s t k = 0 := by unfold freeV; rw [E1]; exact if_pos he0
                have E3 : freeS s t k = s := by unfold freeS; rw [E1]; exact if_pos he0
                have HFR := Lib.hid (HT.out.free HS.out t k ht (by omega))
                rw [E1, E2, E3] at HFR
                clear E1 E2 E3 he0
                go_wp2_with fail
                refine HFR.out.mono ?_
                rintro e w9 ⟨rfl, np9, nf9, a1, a2, h9⟩
                have HN : Hid (SlL w g bp bf q bq (k9 + 1) w9) := Lib.hid ⟨_, np9, nf9, nq, HS.out, by omega, by omega, by omega, h9⟩
                clear h9
                go_wp2
                go_meet
                exact HN.out
              subst he0
              obtain ⟨hk0, hk16, hP⟩ := isE_zero HER.out
              obtain ⟨kn, rfl⟩ : ∃ kn : Nat, k = kn := ⟨k.toNat, by omega⟩
              have hkn : kn < 16 := by omega
              have HTN : Int.toNat (kn : Int) = kn := Int.toNat_natCast kn
              have HTNX := Lib.hid HTN
              clear HTN
              have HR := Lib.hid HT.out.rdM
              by_cases ho : s.O kn = t
              rotate_left
              · have E1 : freeE s t kn = 8 := by simp [freeE, HER.out, ho]
                have E2 : freeV s t kn = 0 := by simp [freeV, E1]
                have E3 : freeS s t kn = s := by simp [freeS, E1]
                have HFR := Lib.hid (HT.out.free HS.out t kn ht (by omega))
                rw [E1, E2, E3] at HFR
                have d3 : (s.O kn != t) = true := by simpa using ho
                have HOX := Lib.hid (fun w9 np9 nf9 (h9 : Two w g bp bf q bq np9 nf9 nq s s w9) => h9.rdM.ho kn hkn)
                generalize s.O kn = o at *
                clear E1 E2 E3 ho
                go_wp2_with fail
                refine HFR.out.mono ?_
                rintro e w9 ⟨rfl, np9, nf9, a1, a2, h9⟩
                have hok := HOX.out w9 _ _ h9
                have HN : Hid (SlL w g bp bf q bq (k9 + 1) w9) := Lib.hid ⟨_, np9, nf9, nq, HS.out, by omega, by omega, by omega, h9⟩
                clear h9
                go_wp2
                go_meet
                exact HN.out
              have d3 : (s.O kn != t) = false := by simpa using ho
              cases hw : wfor s.F t with
              | some j =>
                have E1 : freeE s t kn = 8 := by simp [freeE, HER.out, hw]
                have E2 : freeV s t kn = 0 := by simp [freeV, E1]
                have E3 : freeS s t kn = s := by simp [freeS, E1]
                have HFR := Lib.hid (HT.out.free HS.out t kn ht (by omega))
                rw [E1, E2, E3] at HFR
                have HFI := Lib.hid (fun w9 np9 nf9 (h9 : Two w g bp bf q bq np9 nf9 nq s s w9) => for55 h9.rdM t)
                have E4 : forI s.F t = j := forI_some hw
                rw [E4] at HFI
                have d5 : decide (0 ≤ (j : Int)) = true := by simp
                have HOX := Lib.hid (fun w9 np9 nf9 (h9 : Two w g bp bf q bq np9 nf9 nq s s w9) => h9.rdM.ho kn hkn)
                rw [ho] at HOX d3
                clear E1 E2 E3 E4 ho hw
                go_wp2_with fail
                refine HFR.out.mono ?_
                rintro e w9 ⟨rfl, np9, nf9, a1, a2, h9⟩
                have hok := HOX.out w9 _ _ h9
                have HF := Lib.hid (HFI.out w9 _ _ h9)
                have HN : Hid (SlL w g bp bf q bq (k9 + 1) w9) := Lib.hid ⟨_, np9, nf9, nq, HS.out, by omega, by omega, by omega, h9⟩
                clear h9
                go_wp2_with fail
                refine HF.out.mono ?_
                rintro e w8 ⟨rfl, rfl⟩
                go_wp2
                go_meet
                exact HN.out
              | none =>
                have E1 : freeE s t kn = 0 := by simp [freeE, HER.out, hw, ho]
                have E2 : freeV s t kn = nextI (eff s) (s.F kn) (s.F kn).length := by simp [freeV, E1]
                have E3 : freeS s t kn = passS s kn (nextI (eff s) (s.F kn) (s.F kn).length) := by simp [freeS, E1, E2]
                have HFR := Lib.hid (HT.out.free HS.out t kn ht (by omega))
                rw [E1, E2, E3] at HFR
                have HFI := Lib.hid (fun s1 w9 np9 nf9 (h9 : Two w g bp bf q bq np9 nf9 nq s1 s w9) => for55 h9.rdM t)
                have E4 : forI s.F t = -1 := forI_no hw
                rw [E4] at HFI
                have HOX := Lib.hid (fun s1 w9 np9 nf9 (h9 : Two w g bp bf q bq np9 nf9 nq s1 s w9) => h9.rdM.ho kn hkn)
                have HRF := Lib.hid (fun s1 w9 np9 nf9 (h9 : Two w g bp bf q bq np9 nf9 nq s1 s w9) => h9.rfree HS.out (by omega) kn hkn)
                have HOK := Lib.hid (passS_ok HS.out hkn)
                rw [ho] at HOX d3
                clear E1 E2 E3 E4 ho hw
                generalize nextI (eff s) (s.F kn) (s.F kn).length = nx at *
                have d6 : (nx != nx) = false := by simp
                go_wp2_with fail
                refine HFR.out.mono ?_
                rintro e w9 ⟨rfl, np9, nf9, a1, a2, h9⟩
                have hok := HOX.out _ w9 _ _ h9
                have HF := Lib.hid (HFI.out _ w9 _ _ h9)
                have HR9 := Lib.hid (HRF.out _ w9 _ _ h9)
                clear h9
                go_wp2_with fail
                refine HF.out.mono ?_
                rintro e w8 ⟨rfl, rfl⟩
                go_wp2_with fail
                refine HR9.out.mono ?_
                rintro e w8 ⟨rfl, h8⟩
                have HN : Hid (SlL w g bp bf q bq (k9 + 1) w8) := Lib.hid ⟨_, np9, nf9, nq, HOK.out, by omega, by omega, by omega, h8⟩
                clear h8
                go_wp2
                go_meet
                exact HN.out
          by_cases hy4 : y = 4
          · as_aux_lemma =>
              have e1 : (y == 1) = false := by simpa using hy1
              have e2 : (y == 2) = false := by simpa using hy2
              have e3 : (y == 3) = false := by simpa using hy3
              have e4 : (y == 4) = true := by simpa using hy4
              clear hy1 hy2 hy3 hy4
              cases th with
              | false =>
                have E1 : dropE s t = 4 := by simp [dropE, HTH.out]
                have E2 : dropS s t = s := by simp [dropS, E1]
                have HDR := Lib.hid (HT.out.drop HS.out t ht)
                rw [E1, E2] at HDR
                clear E1 E2
                go_wp2_with fail
                refine HDR.out.mono ?_
                rintro e w9 ⟨rfl, np9, nf9, a1, a2, h9⟩
                have HN : Hid (SlL w g bp bf q bq (k9 + 1) w9) := Lib.hid ⟨_, np9, nf9, nq, HS.out, by omega, by omega, by omega, h9⟩
                clear h9
                go_wp2
                go_meet
                exact HN.out
              | true =>
                have HR := Lib.hid HT.out.rdM
                have HF := Lib.hid (for55 HR.out t)
                cases hw : wfor s.F t with
                | none =>
                  have E1 : dropE s t = 8 := by simp [dropE, HTH.out, hw]
                  have E2 : dropS s t = s := by simp [dropS, E1]
                  have E3 : forI s.F t = -1 := forI_no hw
                  have HDR := Lib.hid (HT.out.drop HS.out t ht)
                  rw [E1, E2] at HDR
                  rw [E3] at HF
                  clear E1 E2 E3 hw
                  go_wp2_with fail
                  refine HF.out.mono ?_
                  rintro e w9 ⟨rfl, rfl⟩
                  go_wp2_with fail
                  refine HDR.out.mono ?_
                  rintro e w9 ⟨rfl, np9, nf9, a1, a2, h9⟩
                  have HN : Hid (SlL w g bp bf q bq (k9 + 1) w9) := Lib.hid ⟨_, np9, nf9, nq, HS.out, by omega, by omega, by omega, h9⟩
                  clear h9
                  go_wp2
                  go_meet
                  exact HN.out
                | some j =>
                  have E1 : dropE s t = 0 := by simp [dropE, HTH.out, hw]
                  have E2 : dropS s t = goS s t := by simp [dropS, E1]
                  have E3 : forI s.F t = j := forI_some hw
                  have HGO := Lib.hid (HT.out.rgo HS.out t)
                  have HDRW := Lib.hid (fun w4 (h4 : Two w g bp bf q bq np nf nq s (goS s t) w4) => h4.drop HS.out t ht)
                  have HOK : Hid (LkOk (goS s t)) := Lib.hid (HS.out.drop t)
                  rw [E1, E2] at HDRW
                  rw [E3] at HF
                  have d3 : decide ((j : Int) < 0) = false := by simp
                  clear E1 E2 E3 hw
                  go_wp2_with fail
                  refine HF.out.mono ?_
                  rintro e w9 ⟨rfl, rfl⟩
                  go_wp2_with fail
                  refine HGO.out.mono ?_
                  rintro e w4 ⟨rfl, h4⟩
                  have HDR := Lib.hid (HDRW.out w4 h4)
                  clear h4
                  go_wp2_with fail
                  refine HDR.out.mono ?_
                  rintro e w9 ⟨rfl, np9, nf9, a1, a2, h9⟩
                  have HN : Hid (SlL w g bp bf q bq (k9 + 1) w9) := Lib.hid ⟨_, np9, nf9, nq, HOK.out, by omega, by omega, by omega, h9⟩
                  clear h9
                  go_wp2
                  go_meet
                  exact HN.out
          have e1 : (y == 1) = false := by simpa using hy1
          have e2 : (y == 2) = false := by simpa using hy2
          have e3 : (y == 3) = false := by simpa using hy3
          have e4 : (y == 4) = false := by simpa using hy4
          have HN : Hid (SlL w g bp bf q bq (k9 + 1) wr) := Lib.hid ⟨s, np, nf, nq, HS.out, by omega, by omega, by omega, HT.out⟩
          clear hy1 hy2 hy3 hy4
          go_wp2
          go_meet
          exact HN.out
        case rest =>
          obtain ⟨s', np', nf', nq', hs', hnp', hnf', hnq', hT'⟩ := hcut
          have HTE := Lib.hid (hT'.tells hs' (by omega))
          have HN : Hid (∀ w9, Two w g bp bf q bq np' nf' nq' s' s' w9 → SlL w g bp bf q bq (k9 + 1) w9) := Lib.hid (fun w9 h9 => ⟨s', np', nf', nq', hs', hnp', hnf', hnq', h9⟩)
          clear hT'
          go_wp2_with fail
          refine HTE.out.mono ?_
          rintro e w9 ⟨rfl, h9⟩
          have HN9 := Lib.hid (HN.out w9 h9)
          clear h9
          go_wp2
          go_roundw
          case rel => exact ⟨k9 + 1, by omega, by go_num, HN9.out⟩
          case measure => simp [intOf]; omega
end Go.Proofs.Ytenhcpobncmedaa
