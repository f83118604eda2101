/- Contract of ringlaw4.sameRecs at two lists that read alike; the law ringlaw4.TraceRead. -/
import Derived.Test.YtjdbclcafjlohaaTrF
namespace Go.Proofs.Ytjdbclcafjlohaa
open Go.RowKit
set_option maxHeartbeats 400000
set_option linter.unusedVariables false
set_option linter.unusedSimpArgs false
set_option maxRecDepth 100000 in
theorem sameRecs_same (A A' : Option Addr) (n c c' : Nat) (rs : List Rc) (w : World) (h : RR w w.heap.size A n rs) (h' : RR w w.heap.size A' n rs) (hn : n ≤ 9223372036854775807) :
    Calls Try.prog 19 #[.slice A n c, .slice A' n c'] w fun e w' => e = .returned (.bool true) ∧ Below w.heap.size w w' := by
  go_enter Try.func19, Try.ntmps19
  go_wp2
  go_loopw [13] (fun i wr => ∃ k : Nat, k ≤ n ∧ i = .int .i64 k ∧ Below w.heap.size w wr) (fun i _ => n - (intOf i).toNat)
  case atStart => exact ⟨0, by omega, rfl, Below.refl _ _⟩
  case round =>
    obtain ⟨k, hk, rfl, hbw⟩ := hrel
    by_cases hlt : k < n
    · obtain ⟨b, o, rfl, hb, c0, c1, c2, c3⟩ := (h.below' hbw (Nat.le_refl _)).at_ hlt
      obtain ⟨b', o', rfl, hb', d0, d1, d2, d3⟩ := (h'.below' hbw (Nat.le_refl _)).at_ hlt
      generalize rs.getD k .zero = r at *
      have hb1 : b < wr.heap.size := Nat.lt_of_lt_of_le hb hbw.size
      have hb2 : b' < wr.heap.size := Nat.lt_of_lt_of_le hb' hbw.size
      have hkn : (k : Int) < n := by omega
      go_wp2_with fail
      refine wp_region_near wr.heap.size (by kernel_rfl) (by kernel_rfl) ?_
      repeat (go_big_quiet_step (fail))
      refine wpQuiet_nil ?_
      intro w3 hb3
      go_wp2
      go_roundw
      case rel => exact ⟨k + 1, by omega, by go_num, hbw.trans (hb3.mono hbw.size)⟩
      case measure => simp [intOf]; omega
    · go_wp2
      go_ret
      exact ⟨rfl, hbw⟩
set_option maxRecDepth 100000 in
theorem law_traceRead (A : Option Addr) (n c : Nat) (xs : List Int) (w : World) (h : RB w w.heap.size A n xs) (hn : n ≤ 9223372036854775807) :
    Calls Try.prog 4 #[.slice A n c] w fun e w' => e = .returned (.bool true) ∧ Below w.heap.size w w' := by
  have hlen : (if recsErr xs = 0 then recs xs (xs.length / 3) else []).length ≤ 9223372036854775807 := by
    have := h.len
    split
    · rw [recs_len]; omega
    · simp
  have HLe := Lib.hid hlen
  clear hlen
  go_enter Try.func4, Try.ntmps4
  go_wp2_with fail
  refine (decode_any A n c xs _ w.heap.size h (Nat.le_refl _) hn).mono ?_
  rintro e w1 ⟨A1, m1, c1, rfl, hr1, hb1⟩
  go_wp2_with fail
  refine (traceOf_any A n c xs _ w.heap.size (h.below' hb1 (Nat.le_refl _)) hb1.size hn).mono ?_
  rintro e w2 ⟨A2, m2, c2, rfl, hr2, hb2⟩
  generalize recsErr xs = E at *
  generalize (if E = 0 then recs xs (xs.length / 3) else []) = ys at *
  obtain rfl : m1 = m2 := hr1.2.symm.trans hr2.2
  have hm : m1 ≤ 9223372036854775807 := by rw [← hr1.2]; exact HLe.out
  have hr1' := (hr1.below' hb2 (Nat.le_refl _)).more hb2.size
  have hbw2 : Below w.heap.size w w2 := hb1.trans (hb2.mono hb1.size)
  go_wp2_with (go_at_call 19; refine (sameRecs_same _ _ _ _ _ ys _ hr1' hr2 hm).mono ?_; rintro e w3 ⟨rfl, hb3⟩)
  go_ret
  exact ⟨rfl, hbw2.trans (hb3.mono hbw2.size)⟩
end Go.Proofs.Ytjdbclcafjlohaa
