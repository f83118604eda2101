/- Locks that are slept for: contract of the law's sleepTells. -/
import Derived.Test.YtenhcpobncmedaaSeO
namespace Go.Proofs.Ytenhcpobncmedaa
open Go.RowKit Go.Maps
set_option maxHeartbeats 400000
set_option linter.unusedVariables false
set_option linter.unusedSimpArgs false
section
variable {w : World} {g bp np bf nf q bq nq : Nat} {s : LkS}
set_option maxHeartbeats 1000000 in
set_option maxRecDepth 100000 in
theorem tells61 (hs : LkOk s) (h : LkQ w g bp np bf nf s) (h2 : LkR w q bq nq s) (hnq : nq ≤ 10000000000000) :
    Calls Try.prog 61 #[.pointer (some ⟨g, 0, none⟩), .pointer (some ⟨q, 0, none⟩)] w fun e w' => e = .returned (.bool true) ∧ Below w.heap.size w w' := by
  have HP := Lib.hid (fun wr (hb : Below w.heap.size w wr) => h.grow hb)
  have HR := Lib.hid (fun wr (hb : Below w.heap.size w wr) => h2.grow hb)
  have HS := Lib.hid hs
  have HLN := Lib.hid (fun i (hi : i < 16) => Nat.le_trans (hs.len hi) (by omega : 16 ≤ 1000))
  have hq0 := h2.hp
  have hgq := h2.lt
  have hgg := h.toLkR.lt
  clear h h2 hs
  go_enter Try.func61, Try.ntmps61
  go_wp2
  go_loopw [17] (fun i wr => ∃ k : Nat, k ≤ 17 ∧ i = .int .i64 k ∧ Below w.heap.size w wr) (fun i _ => 17 - (intOf i).toNat)
  case atStart => exact ⟨0, by omega, rfl, Below.refl _ _⟩
  case round =>
    obtain ⟨k, hk, rfl, hb⟩ := hrel
    have HB := Lib.hid hb
    by_cases hk17 : k < 17
    · have hki : (k : Int) < 17 := by omega
      have HO := Lib.hid (owner122 (HP.out wr hb).toLkR k hk17)
      have HW := Lib.hid (row123 (HP.out wr hb).toLkR k hk17 HLN.out)
      clear hb
      by_cases hk16 : k < 16
      · have d1 : decide (15 < (k : Int)) = false := by simp; omega
        have e1 : ownV s k = s.O k := if_pos hk16
        have e2 : ownE s k = 0 := if_pos hk16
        have e3 : rowV s k = s.F k := if_pos hk16
        rw [e1, e2] at HO
        rw [e2, e3] at HW
        have hki16 : (k : Int) < 16 := by omega
        have hk0 : (0 : Int) ≤ k := by omega
        have HOK := Lib.hid (fun wr hb => (HR.out wr hb).ho k hk16)
        have HRK := Lib.hid (fun wr hb => (HR.out wr hb).hr k hk16)
        have d2 : (s.O k != s.O k) = false := by simp
        generalize s.O k = o at *
        generalize s.F k = xs at *
        clear e1 e2 e3
        go_wp2_with fail
        refine HO.out.mono ?_
        rintro e w3 ⟨rfl, rfl⟩
        go_wp2_with fail
        refine HW.out.mono ?_
        rintro e w3 ⟨A, n, c, rfl, hr, hn, hb3⟩
        have hb4 := HB.out.trans (hb3.mono HB.out.size)
        have HB4 := Lib.hid hb4
        have hok := HOK.out w3 hb4
        obtain ⟨A2, n2, c2, hc2, hr2, hn2⟩ := HRK.out w3 hb4
        have HE := Lib.hid (equal_any A A2 n c n2 c2 xs xs w3 _ _ hr hr2 (Nat.le_refl _) (Nat.le_refl _) hn hn2)
        rw [decide_eq_true rfl] at HE
        clear hr hr2 hb3 hb4
        go_wp2_with fail
        refine HE.out.mono ?_
        rintro e w5 ⟨rfl, hb5⟩
        have HB5 := Lib.hid hb5
        clear hb5
        go_wp2
        go_roundw
        case rel => exact ⟨k + 1, by omega, by go_num, HB4.out.trans (HB5.out.mono HB4.out.size)⟩
        case measure => simp [intOf]; omega
      · obtain rfl : k = 16 := by omega
        have e1 : ownV s 16 = 0 := rfl
        have e2 : ownE s 16 = 1 := rfl
        have e3 : rowV s 16 = [] := rfl
        rw [e1, e2] at HO
        rw [e2, e3] at HW
        clear e1 e2 e3
        go_wp2_with fail
        refine HO.out.mono ?_
        rintro e w3 ⟨rfl, rfl⟩
        go_wp2_with fail
        refine HW.out.mono ?_
        rintro e w3 ⟨A, n, c, rfl, hr, hn, hb3⟩
        have hn0 : n = 0 := hr.len.symm
        subst hn0
        have HB4 := Lib.hid (HB.out.trans (hb3.mono HB.out.size))
        clear hr hb3
        go_wp2
        go_roundw
        case rel => exact ⟨16 + 1, by omega, by go_num, HB4.out⟩
        case measure => simp [intOf]
    · have hki : ¬ ((k : Int) < 17) := by omega
      clear hb
      obtain ⟨W, hW⟩ : ∃ W, W = wr := ⟨_, rfl⟩
      subst hW
      go_wp2
      go_loopw [77] (fun i wr => ∃ k : Nat, k ≤ 18 ∧ i = .int .i64 k ∧ Below w.heap.size w wr) (fun i _ => 18 - (intOf i).toNat)
      case atStart => exact ⟨0, by omega, rfl, HB.out⟩
      case round =>
        obtain ⟨t, ht, rfl, hb⟩ := hrel
        have HB := Lib.hid hb
        by_cases ht18 : t < 18
        · have hti : (t : Int) < 18 := by omega
          have htw : (Lit.int .i64 (t : Int)).wf = true := by simp [Lit.wf, IntKind.min, IntKind.max, IntKind.signed, IntKind.bits]; omega
          have HE := Lib.hid (eff118 HS.out (HP.out wr hb).toLkR t htw)
          have HF := Lib.hid (fun w3 hb3 => for124 (HP.out w3 hb3) t htw)
          have HL := Lib.hid (fun w3 hb3 => (HR.out w3 hb3).look htw)
          have HPq := Lib.hid (fun w3 hb3 => (HR.out w3 hb3).hp)
          have HE2 := Lib.hid (fun w3 hb3 hP => eff120 HS.out (HR.out w3 hb3) hnq t hP)
          have HF2 := Lib.hid (fun w3 hb3 => for55 (HR.out w3 hb3) t)
          clear hb
          cases hP : (s.P (t : Int)).isSome with
          | false =>
            have e1 : effV s t = 0 := by simp [effV, hP]
            have e2 : effE s t = 4 := by simp [effE, hP]
            have e3 : forV s t = 0 := by simp [forV, hP]
            have e4 : forE s t = 4 := by simp [forE, hP]
            rw [e1, e2] at HE
            rw [e3, e4] at HF
            rw [hP] at HL
            clear e1 e2 e3 e4 hP
            go_wp2_with fail
            refine HE.out.mono ?_
            rintro e w3 ⟨rfl, hb3⟩
            have hb4 := HB.out.trans (hb3.mono HB.out.size)
            have hl := HL.out w3 hb4
            have hpq := HPq.out w3 hb4
            have HF3 := Lib.hid (HF.out w3 hb4)
            have HB4 := Lib.hid hb4
            clear hb3 hb4
            go_wp2_with fail
            refine HF3.out.mono ?_
            rintro e w4 ⟨rfl, rfl⟩
            go_wp2
            go_roundw
            case rel => exact ⟨t + 1, by omega, by go_num, HB4.out⟩
            case measure => simp [intOf]; omega
          | true =>
            have e1 : effV s t = eff s t := by simp [effV, hP]
            have e2 : effE s t = 0 := by simp [effE, hP]
            rw [e1, e2] at HE
            rw [hP] at HL
            have hne : (eff s t != eff s t) = false := by simp
            have HE3 := Lib.hid (fun w3 hb3 => HE2.out w3 hb3 hP)
            cases hw : wfor s.F (t : Int) with
            | none =>
              have e3 : forV s t = 0 := by simp [forV, hP, forM_none hw]
              have e4 : forE s t = 8 := by simp [forE, hP, hw]
              have e5 : forI s.F (t : Int) = -1 := forI_no hw
              rw [e3, e4] at HF
              rw [e5] at HF2
              clear e1 e2 e3 e4 e5 hP hw HE2
              generalize eff s t = ef at *
              go_wp2_with fail
              refine HE.out.mono ?_
              rintro e w3 ⟨rfl, hb3⟩
              have hb4 := HB.out.trans (hb3.mono HB.out.size)
              have hl := HL.out w3 hb4
              have hpq := HPq.out w3 hb4
              have HF3 := Lib.hid (HF.out w3 hb4)
              have HE4 := Lib.hid (HE3.out w3 hb4)
              have HB4 := Lib.hid hb4
              clear hb3 hb4
              go_wp2_with fail
              refine HF3.out.mono ?_
              rintro e w4 ⟨rfl, rfl⟩
              go_wp2_with fail
              refine HE4.out.mono ?_
              rintro e w4 ⟨rfl, hb5⟩
              have hb6 := HB4.out.trans (hb5.mono HB4.out.size)
              have HB6 := Lib.hid hb6
              have HF4 := Lib.hid (HF2.out w4 hb6)
              clear hb5 hb6
              go_wp2_with fail
              refine HF4.out.mono ?_
              rintro e w5 ⟨rfl, rfl⟩
              go_wp2
              go_roundw
              case rel => exact ⟨t + 1, by omega, by go_num, HB6.out⟩
              case measure => simp [intOf]; omega
            | some k =>
              have e3 : forV s t = k := by simp [forV, hP, forM_some hw]
              have e4 : forE s t = 0 := by simp [forE, hP, hw]
              have e5 : forI s.F (t : Int) = k := forI_some hw
              rw [e3, e4] at HF
              rw [e5] at HF2
              have hk0 : decide ((k : Int) < 0) = false := by simp
              have hkk : ((k : Int) != k) = false := by simp
              clear e1 e2 e3 e4 e5 hP hw HE2
              generalize eff s t = ef at *
              go_wp2_with fail
              refine HE.out.mono ?_
              rintro e w3 ⟨rfl, hb3⟩
              have hb4 := HB.out.trans (hb3.mono HB.out.size)
              have hl := HL.out w3 hb4
              have hpq := HPq.out w3 hb4
              have HF3 := Lib.hid (HF.out w3 hb4)
              have HE4 := Lib.hid (HE3.out w3 hb4)
              have HB4 := Lib.hid hb4
              clear hb3 hb4
              go_wp2_with fail
              refine HF3.out.mono ?_
              rintro e w4 ⟨rfl, rfl⟩
              go_wp2_with fail
              refine HE4.out.mono ?_
              rintro e w4 ⟨rfl, hb5⟩
              have hb6 := HB4.out.trans (hb5.mono HB4.out.size)
              have HB6 := Lib.hid hb6
              have HF4 := Lib.hid (HF2.out w4 hb6)
              clear hb5 hb6
              go_wp2_with fail
              refine HF4.out.mono ?_
              rintro e w5 ⟨rfl, rfl⟩
              go_wp2_with fail
              refine HF4.out.mono ?_
              rintro e w5 ⟨rfl, rfl⟩
              go_wp2
              go_roundw
              case rel => exact ⟨t + 1, by omega, by go_num, HB6.out⟩
              case measure => simp [intOf]; omega
        · obtain rfl : t = 18 := by omega
          clear hb
          go_wp2
          go_ret
          exact ⟨rfl, HB.out⟩
end
end Go.Proofs.Ytenhcpobncmedaa
