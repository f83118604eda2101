/- The law ringlaw4.RefsReached over lists in memory. -/
import Derived.Test.YtmfalafolpfhiaaRrG
namespace Go.Proofs.Ytmfalafolpfhiaa
open Go.RowKit Go.Maps
set_option maxHeartbeats 400000
set_option linter.unusedVariables false
set_option linter.unusedSimpArgs false
theorem reachL_len (es : List (Int × Int)) (fs : List Int) : (reachL es fs).length ≤ 64 := by
  unfold reachL
  split
  · exact outL_len _ 64
  · simp
set_option maxHeartbeats 1000000 in
set_option maxRecDepth 100000 in
theorem law_refsReached (A A' : Option Addr) (n c n' c' : Nat) (es : List (Int × Int)) (fs : List Int) (w : World) (h : RE w w.heap.size A n es) (h' : RD w w.heap.size A' n' fs) (hn : n ≤ 8796093022208) (hn' : n' ≤ 17592186044416) :
    Calls Try.prog 3 #[.slice A n c, .slice A' n' c'] w fun e w' => e = .returned (.bool true) ∧ Below w.heap.size w w' := by
  have hl := reachL_len es fs
  have HR := Lib.hid (reach_any A A' n c n' c' es fs w w.heap.size w.heap.size h h' (Nat.le_refl _) (Nat.le_refl _) hn hn')
  go_enter Try.func3, Try.ntmps3
  go_wp2_with (go_at_call 6; refine HR.out.mono ?_; rintro e w1 ⟨v1, rfl, hr1, hb1⟩)
  have hz1 := hb1.size
  have HF := Lib.hid (refReach_any A A' n c n' c' es fs w1 w.heap.size w.heap.size (RS.below' h hb1 (Nat.le_refl _)) (h'.below' hb1 (Nat.le_refl _)) hz1 hz1 hn hn')
  go_wp2_with (go_at_call 7; refine HF.out.mono ?_; rintro e w2 ⟨v2, rfl, hr2, hb2⟩)
  have hz2 := hb2.size
  obtain ⟨A1, c1, rfl, -, -⟩ := hr1.shape
  obtain ⟨A2, c2, rfl, -, -⟩ := hr2.shape
  have hq1 := RD.of_row (hr1.grow hb2)
  have hq2 := RD.of_row hr2
  have HS := Lib.hid (sameInts_any A1 A2 (reachL es fs).length c1 (reachL es fs).length c2 (reachL es fs) (reachL es fs) w2 w2.heap.size w2.heap.size hq1 hq2 (Nat.le_refl _) (Nat.le_refl _) (by omega) (by omega))
  have HB := Lib.hid (hb1.trans (hb2.mono hz1))
  clear hq1 hq2 hr1 hr2 hb1 hb2 HF HR
  generalize reachErr es fs = re
  generalize reachL es fs = rl at *
  go_wp2_with (go_at_call 8; refine HS.out.mono ?_; rintro e w3 ⟨rfl, hb3⟩; rw [show decide (rl = rl) = true from by simp])
  go_ret
  exact ⟨by simp, HB.out.trans (hb3.mono (by omega))⟩
end Go.Proofs.Ytmfalafolpfhiaa
