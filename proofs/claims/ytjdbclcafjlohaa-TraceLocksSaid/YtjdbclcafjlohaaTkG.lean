/- Contract of ringref4.TraceHeld, and the law ringlaw4.TraceLocks. -/
import Derived.Test.YtjdbclcafjlohaaTkF
namespace Go.Proofs.Ytjdbclcafjlohaa
open Go.RowKit
set_option maxHeartbeats 400000
set_option linter.unusedVariables false
set_option linter.unusedSimpArgs false
set_option maxHeartbeats 1000000 in
set_option maxRecDepth 100000 in
theorem traceHeld_any (A : Option Addr) (n c : Nat) (rs : List Rc) (t : Int) (w : World) (B : Nat) (h : RR w B A n rs) (hB : B ≤ w.heap.size) (hn : n ≤ 9223372036854775807) :
    Calls Try.prog 27 #[.slice A n c, .int .i64 t] w (HeldPost rs t w) := by
  have HL := Lib.hid h.2
  by_cases ht : traceErr rs = 0
  · obtain ⟨hsm, hgd⟩ := traceErr_good ht
    have hsm' : n ≤ 400 := by rw [HL.out] at hsm; exact hsm
    have HT := Lib.hid ht
    have HF := Lib.hid (show heldOf rs t = hd (rs.take n) t by unfold heldOf; rw [if_pos ht, List.take_of_length_le (by rw [HL.out]; omega)])
    have hl := hd_len rs t n (by rw [HL.out]; omega)
    clear hsm hgd
    go_enter Try.func27, Try.ntmps27
    go_wp2_with (go_at_call 37; refine (fault_any A n c rs _ B h hB hn).mono ?_; rintro e w1 ⟨rfl, hb1⟩; rw [ht])
    clear ht
    go_wp2_with fail
    refine (holding_any A n c rs t n _ B (h.below' hb1 hB) (Nat.le_trans hB hb1.size) (Nat.le_refl _) hsm').mono ?_
    rintro e w2 ⟨A2, c2, rfl, hr2, hb2⟩
    generalize hd (rs.take n) t = l at *
    go_wp2
    go_ret2
    exact ⟨A2, l.length, c2, by rw [HT.out]; rfl, by rw [HF.out]; exact RD.of_row hr2, by omega, hb1.trans (hb2.mono hb1.size)⟩
  · have ht' : (traceErr rs != 0) = true := by simpa using ht
    have HF := Lib.hid (show heldOf rs t = [] from if_neg ht)
    go_enter Try.func27, Try.ntmps27
    go_wp2_with (go_at_call 37; refine (fault_any A n c rs _ B h hB hn).mono ?_; rintro e w1 ⟨rfl, hb1⟩)
    go_ret2
    exact ⟨_, _, _, rfl, by rw [HF.out]; exact ⟨rfl, fun h => absurd h (by omega)⟩, by omega, hb1⟩
set_option maxHeartbeats 4000000 in
set_option maxRecDepth 100000 in
theorem law_traceLocks (A : Option Addr) (n c : Nat) (rs : List Rc) (t : Int) (w : World) (h : RR w w.heap.size A n rs) (hnc : n ≤ c) (hn : n ≤ 9223372036854775807) :
    Calls Try.prog 8 #[.slice A n c, .int .i64 t] w fun e w' => e = .returned (.bool true) ∧ Below w.heap.size w w' := by
  go_enter Try.func8, Try.ntmps8
  go_wp2_with fail
  refine (held_any A n c rs t _ w.heap.size h (Nat.le_refl _) hn).mono ?_
  rintro e w1 ⟨A1, m1, c1, rfl, hr1, hm1, hb1⟩
  go_wp2_with fail
  refine (traceHeld_any A n c rs t _ w.heap.size (h.below' hb1 (Nat.le_refl _)) hb1.size hn).mono ?_
  rintro e w2 ⟨A2, m2, c2, rfl, hr2, hm2, hb2⟩
  have hbw2 : Below w.heap.size w w2 := hb1.trans (hb2.mono hb1.size)
  go_wp2_with fail
  refine (twrong_any A n c rs _ w.heap.size (h.below' hbw2 (Nat.le_refl _)) hbw2.size hn).mono ?_
  rintro e w3 ⟨a1, b1, rfl, hi1, hb3⟩
  have hbw3 : Below w.heap.size w w3 := hbw2.trans (hb3.mono hbw2.size)
  go_wp2_with fail
  refine (traceWrong_any A n c rs _ w.heap.size (h.below' hbw3 (Nat.le_refl _)) hbw3.size hnc hn).mono ?_
  rintro e w4 ⟨a2, b2, rfl, hi2, hb4⟩
  have hbw4 : Below w.heap.size w w4 := hbw3.trans (hb4.mono hbw3.size)
  have HI := Lib.hid (hi1.unique hi2)
  have hr1' : RD w4 w1.heap.size A1 m1 (heldOf rs t) := ((hr1.below' hb2 (Nat.le_refl _)).below' hb3 hb2.size).below' hb4 (Nat.le_trans hb2.size hb3.size)
  have hr2' : RD w4 w2.heap.size A2 m2 (heldOf rs t) := (hr2.below' hb3 (Nat.le_refl _)).below' hb4 hb3.size
  have hs1 : w1.heap.size ≤ w4.heap.size := Nat.le_trans hb2.size (Nat.le_trans hb3.size hb4.size)
  have hs2 : w2.heap.size ≤ w4.heap.size := Nat.le_trans hb3.size hb4.size
  clear hi1 hi2 hr1 hr2 hb1 hb2 hb3 hb4 hbw2 hbw3
  go_wp2_with fail
  refine (sameInts_any A1 A2 m1 c1 m2 c2 _ _ _ _ _ hr1' hr2' hs1 hs2 (by omega) (by omega)).mono ?_
  rintro e w5 ⟨rfl, hb5⟩
  rw [decide_eq_true rfl]
  have hbw5 : Below w.heap.size w w5 := hbw4.trans (hb5.mono hbw4.size)
  obtain ⟨rfl, rfl⟩ := HI.out
  clear hr1' hr2' hb5 hbw4
  go_wp2
  go_ret
  exact ⟨by simp, hbw5⟩
end Go.Proofs.Ytjdbclcafjlohaa
