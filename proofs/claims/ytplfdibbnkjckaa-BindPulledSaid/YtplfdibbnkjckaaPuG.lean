/- The law ringlaw4.BindPulled. -/
import Derived.Test.YtplfdibbnkjckaaPuE
import Derived.Test.YtplfdibbnkjckaaPuF
import Derived.Test.YtplfdibbnkjckaaObW
namespace Go.Proofs.Ytplfdibbnkjckaa
open Go.RowKit
set_option maxHeartbeats 400000
set_option linter.unusedVariables false
set_option linter.unusedSimpArgs false
theorem pullE_len : ∀ (k : Nat) (l lib : List Fo), (pullE k l lib).2.length ≤ 12
  | 0, _, _ => by simp [pullE]
  | k + 1, l, lib => by
    unfold pullE
    split
    · split
      · rename_i h
        split
        · have := (parts_zero h).1
          simpa [osOf] using this
        · exact pullE_len k _ _
      · simp
    · simp
set_option maxHeartbeats 2000000 in
set_option maxRecDepth 100000 in
theorem law_bindPulled (A A' : Option Addr) (n c n' c' : Nat) (l lib : List Fo) (w : World) (h : RF w w.heap.size A n l) (h' : RF w w.heap.size A' n' lib) (hb : n * 96 ≤ 140737488355328) (hn' : n' ≤ 9223372036854775807) (hc' : n' ≤ c') (hv : VarOk w) :
    Calls Try.prog 3 #[.slice A n c, .slice A' n' c'] w fun e w' => e = .returned (.bool true) ∧ Below w.heap.size w w' := by
  have h1 : ∀ (o : Ob) (w : World) (B : Nat), o.Read w B → B ≤ w.heap.size → Calls Try.prog 15 #[.agg o.vals] w (ErrPost w (objErr o)) := check_any
  have h2 : ∀ (o : Ob) (w : World) (B : Nat), o.Read w B → B ≤ w.heap.size → o.n2 ≤ o.c2 → o.c2 ≤ 9223372036854775807 → Calls Try.prog 16 #[.agg o.vals] w (ErrPost w (objErr o)) := fault_any
  have HF := fun W (hb : Below w.heap.size w W) => h.below' hb (Nat.le_refl _)
  have HG := fun W (hb : Below w.heap.size w W) => h'.below' hb (Nat.le_refl _)
  have HA := Lib.hid (fun W (hb : Below w.heap.size w W) => lacks_any h1 A n c (osOf l) W w.heap.size (HF W hb).ro hb.size (by omega))
  have HB := Lib.hid (fun W (hb : Below w.heap.size w W) => bindLacks_any h2 A n c (osOf l) W w.heap.size (HF W hb).ro hb.size (by omega) (hv.below hb hv.1))
  have HC := Lib.hid (fun W (hbw : Below w.heap.size w W) => pull_any h1 A A' n c n' c' l lib W w.heap.size (HF W hbw) (HG W hbw) hbw.size hb hn')
  have HD := Lib.hid (fun W (hb : Below w.heap.size w W) => bindPull_any h2 (lib.length + 1) A A' n c n' c' l lib W w.heap.size (by omega) (HF W hb) (HG W hb) hb.size (by omega) hn' hc' (hv.below hb hv.1))
  unfold LkPost at HA HB
  unfold PuPost at HC HD
  generalize partsErr (osOf l) = E at *
  generalize lkL (osOf l) = Lq at *
  have H12 : Hid ((pull l lib).2.length ≤ 12) := Lib.hid (pullE_len _ _ _)
  generalize pull l lib = P at *
  obtain ⟨F, L⟩ := P
  have hE : (E == E) = true := by simp
  have hF : (F == F) = true := by simp
  clear h1 h2 HF HG h h' hb hv
  obtain ⟨ll, hll⟩ : ∃ ll, Lq.length = ll := ⟨_, rfl⟩
  rw [hll] at HA HB
  have HLL := Lib.hid hll
  clear hll
  go_enter Try.func3, Try.ntmps3
  go_wp2_with fail
  refine (HA.out _ (Below.refl _ _)).mono ?_
  rintro e w1 ⟨v1, rfl, hr1, hb1⟩
  obtain ⟨A1, c1, rfl, hc11, hc12⟩ := hr1.shape
  go_wp2_with fail
  refine (HB.out _ hb1).mono ?_
  rintro e w2 ⟨v2, rfl, hr2, hb2⟩
  obtain ⟨A2, c2, rfl, hc21, hc22⟩ := hr2.shape
  have hbw2 := hb1.trans (hb2.mono hb1.size)
  have q1 := hr1.grow hb2
  clear hr1 hb1
  go_wp2_with fail
  refine (HC.out _ hbw2).mono ?_
  rintro e w3 ⟨A3, n3, c3, fs3, rfl, hr3, hs3, hb3⟩
  have hbw3 := hbw2.trans (hb3.mono hbw2.size)
  have q2 := q1.grow hb3
  have r2 := hr2.grow hb3
  clear q1 hr2 hb2 hbw2
  go_wp2_with fail
  refine (HD.out _ hbw3).mono ?_
  rintro e w4 ⟨A4, n4, c4, fs4, rfl, hr4, hs4, hb4⟩
  have hbw4 := hbw3.trans (hb4.mono hbw3.size)
  have q3 := Lib.hid (q2.grow hb4).reads
  have r3 := Lib.hid (r2.grow hb4).reads
  unfold maxLen at hc12 hc22
  have hn3 : Hid (n3 ≤ 9223372036854775807) := Lib.hid (by
    have e := congrArg List.length hs3
    simp only [List.length_map] at e
    have := hr3.len
    have := H12.out
    omega)
  have hS : Hid (n3 ≤ 9223372036854775807 → Calls Try.prog 8 #[.slice A3 n3 c3, .slice A4 n4 c4] w4 (SameB w4)) := Lib.hid (fun hn3 => sameObjects_same A3 A4 n3 c3 n4 c4 fs3 fs4 w4 ((hr3.below' hb4 (Nat.le_refl _)).more hb4.size) hr4 (hs4.trans hs3.symm) hn3)
  have hbx4 := Lib.hid hbw4
  clear q2 r2 hb3 hbw3 hb4 hr3 hr4 hs3 hs4 hbw4
  unfold SameB at hS
  go_wp2_with fail
  refine (hS.out hn3.out).mono ?_
  rintro e w5 ⟨rfl, hb5⟩
  have hb05 := Lib.hid (hbx4.out.trans (hb5.mono hbx4.out.size))
  have q5 := Lib.hid (Reads.below' q3.out hb5 (Nat.le_refl _))
  have r5 := Lib.hid (Reads.below' r3.out hb5 (Nat.le_refl _))
  have hs5 := hb5.size
  clear hb5
  go_wp2
  go_loopw [59] (fun i wr => ∃ k : Nat, k ≤ ll ∧ i = .int .i64 k ∧ Below w5.heap.size w5 wr) (fun i _ => ll - (intOf i).toNat)
  case atStart => exact ⟨0, by omega, rfl, Below.refl _ _⟩
  case round =>
    obtain ⟨k, hk, rfl, hbw⟩ := hrel
    by_cases hlt : k < ll
    · obtain ⟨b, o, u, rfl, hb, hu, x0⟩ := (Reads.below' q5.out hbw (by omega)).at_ hlt
      obtain ⟨b', o', u', rfl, hb', hu', y0⟩ := (Reads.below' r5.out hbw (by omega)).at_ hlt
      have hsk : Lq[k]? = some (Lq.getD k ByteArray.empty) := by simp [List.getD, List.getElem?_eq_getElem (by rw [HLL.out]; exact hlt : k < Lq.length)]
      rw [List.getElem?_map, hsk] at hu hu'
      obtain rfl : u = .string (Lq.getD k ByteArray.empty) := by simpa using hu.symm
      obtain rfl : u' = .string (Lq.getD k ByteArray.empty) := by simpa using hu'.symm
      generalize Lq.getD k ByteArray.empty = s at *
      have hkn : (k : Int) < ll := by omega
      have hk0 : (0 : Int) ≤ k := by omega
      have hnn : (s.toList != s.toList) = false := by simp
      clear hu hu' hsk
      go_wp2
      go_quiet (fail)
      go_wp2
      go_roundw
      case rel => exact ⟨k + 1, by omega, by go_num, below_drewN hbw _⟩
      case measure => simp [intOf]; omega
    · have hfin := Lib.hid (hb05.out.trans (hbw.mono hb05.out.size))
      clear hbw
      obtain rfl : k = ll := by omega
      go_wp2
      go_ret
      exact ⟨rfl, hfin.out⟩
end Go.Proofs.Ytplfdibbnkjckaa
