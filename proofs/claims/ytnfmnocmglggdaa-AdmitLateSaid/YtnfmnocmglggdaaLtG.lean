/- The law ringlaw1.AdmitLate over lists in memory. -/
import Derived.Test.YtnfmnocmglggdaaLtF
namespace Go.Proofs.Ytnfmnocmglggdaa
open Go.RowKit
set_option maxHeartbeats 400000
set_option linter.unusedVariables false
set_option linter.unusedSimpArgs false
theorem two_err : lateErr [⟨1, 1⟩, ⟨1, 2⟩] 4 = 0 := by decide
theorem two_of : lateOf [⟨1, 1⟩, ⟨1, 2⟩] 4 = 2 := by
  unfold lateOf
  rw [if_pos two_err]
  exact late_two
set_option maxHeartbeats 2000000 in
set_option maxRecDepth 100000 in
theorem law_admitLate (A : Option Addr) (n c : Nat) (us : List Us) (q : Int) (w : World) (h : RU w w.heap.size A n us) (hn : n * 16 ≤ 140737488355328) :
    Calls Try.prog 3 #[.slice A n c, .int .i64 q] w fun e w' => e = .returned (.bool true) ∧ Below w.heap.size w w' := by
  go_enter Try.func3, Try.ntmps3
  go_wp2_with fail
  refine (uses_any A n c us _ w.heap.size h (Nat.le_refl _) hn).mono ?_
  rintro e w1 ⟨A1, c1, rfl, hr1, hb1⟩
  have hz1 := hb1.size
  have HLA := Lib.hid (late_any A1 n c1 us q w1 w1.heap.size hr1 (Nat.le_refl _) (by omega))
  have HB1 := Lib.hid hb1
  clear hr1 hb1
  go_wp2_with fail
  refine HLA.out.mono ?_
  rintro e w2 ⟨rfl, hb2⟩
  have HB2 := Lib.hid (HB1.out.trans (hb2.mono hz1))
  have hz2 := HB2.out.size
  clear hb2 HB1 HLA
  have hru : RU (w2.alloc (.cells #[.int .i64 1, .int .i64 1, .int .i64 1, .int .i64 2] 29)) (w2.heap.size + 1) (some ⟨w2.heap.size, 0, none⟩) 2 [⟨1, 1⟩, ⟨1, 2⟩] := ⟨reads_cells w2 29 2 2 [.int .i64 1, .int .i64 1, .int .i64 1, .int .i64 2] rfl, rfl⟩
  have HLB := Lib.hid (late_any (some ⟨w2.heap.size, 0, none⟩) 2 2 [⟨1, 1⟩, ⟨1, 2⟩] 4 _ _ hru (by simp) (by omega))
  unfold LatePost at HLB
  rw [two_err, two_of] at HLB
  clear hru
  have HB3 := Lib.hid (HB2.out.alloc hz2 (.cells #[.int .i64 1, .int .i64 1, .int .i64 1, .int .i64 2] 29))
  obtain ⟨le, hle⟩ : ∃ le, le = lateErr us q := ⟨_, rfl⟩
  obtain ⟨lo, hlo⟩ : ∃ lo, lo = lateOf us q := ⟨_, rfl⟩
  have HV : Hid (le = if chkU us ≠ 0 then chkU us else if q < 0 ∨ 2000 < q then 1 else 0) := Lib.hid (by rw [hle]; rfl)
  have HO : Hid (lo = if le = 0 then lateF us q.toNat else 0) := Lib.hid (by rw [hlo, hle]; rfl)
  rw [← hle, ← hlo]
  clear hle hlo
  go_wp2_with fail
  refine HLB.out.mono ?_
  rintro e w3 ⟨rfl, hb3⟩
  have HB4 := Lib.hid (HB3.out.trans (hb3.mono HB3.out.size))
  have hz4 := HB4.out.size
  clear hb3 HB3 HLB HB2
  have HU := Lib.hid (usesR_any A n c us w3 w.heap.size (h.below' HB4.out (Nat.le_refl _)) hz4 (by omega))
  unfold ChkPost at HU
  go_wp2_with fail
  refine HU.out.mono ?_
  rintro e w5 ⟨rfl, hb5⟩
  have HB5 := Lib.hid (HB4.out.trans (hb5.mono hz4))
  have hz5 := HB5.out.size
  have h5 := h.below' HB5.out (Nat.le_refl _)
  clear hb5 HB4 HU
  by_cases hc : chkU us = 0
  · have hV1 := HV.out
    rw [if_neg (by simpa using hc)] at hV1
    by_cases hq : q < 0 ∨ 2000 < q
    · rw [if_pos hq] at hV1
      have hO1 := HO.out
      rw [hV1, if_neg (by decide)] at hO1
      subst hV1
      subst hO1
      rw [hc]
      clear HV HO hc h5
      rcases Int.lt_or_le q 0 with h0 | h0
      · have d : decide (q < 0) = true := by simpa using h0
        clear hq h0
        go_wp2
        go_ret
        exact ⟨rfl, HB5.out⟩
      · have d : decide (q < 0) = false := by simpa using h0
        have d2 : decide (2000 < q) = true := by simp; omega
        clear hq h0
        go_wp2
        go_ret
        exact ⟨rfl, HB5.out⟩
    · rw [if_neg hq] at hV1
      have hO1 := HO.out
      rw [hV1, if_pos rfl] at hO1
      obtain ⟨T, hT⟩ : ∃ T : Nat, q = (T : Int) := ⟨q.toNat, by omega⟩
      subst hT
      have hT2 : T ≤ 2000 := by omega
      have HRF := Lib.hid (refLate_any A n c us T w5 w.heap.size h5 hz5 hc hT2)
      rw [Int.toNat_natCast] at hO1
      rw [← hO1] at HRF
      subst hV1
      rw [hc]
      have hTn : ¬ (2000 : Int) < (T : Int) := by omega
      clear HV HO hc h5 hq hO1
      go_wp2_with fail
      refine HRF.out.mono ?_
      rintro e w6 ⟨rfl, hb6⟩
      have HB6 := Lib.hid (HB5.out.trans (hb6.mono hz5))
      clear hb6 HRF
      go_wp2
      go_ret
      exact ⟨by simp, HB6.out⟩
  · have hV1 := HV.out
    rw [if_pos hc] at hV1
    have hO1 := HO.out
    rw [hV1, if_neg hc] at hO1
    subst hO1
    subst hV1
    have d : (chkU us != 0) = true := by simpa using hc
    have d2 : (chkU us == 0) = false := by simpa using hc
    generalize chkU us = ck at *
    clear HV HO h5 hc
    go_wp2
    go_ret
    exact ⟨by simp, HB5.out⟩
end Go.Proofs.Ytnfmnocmglggdaa
