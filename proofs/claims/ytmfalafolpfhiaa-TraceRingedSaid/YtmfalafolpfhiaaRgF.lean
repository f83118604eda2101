/- The law ringlaw4.TraceRinged over a list in memory. -/
import Derived.Test.YtmfalafolpfhiaaRgE
namespace Go.Proofs.Ytmfalafolpfhiaa
open Go.RowKit Go.Maps
set_option maxHeartbeats 400000
set_option linter.unusedVariables false
set_option linter.unusedSimpArgs false
set_option maxHeartbeats 1000000 in
set_option maxRecDepth 100000 in
theorem law_traceRinged (A : Option Addr) (n c : Nat) (es : List (Int × Int)) (w : World) (h : RE w w.heap.size A n es) (hn : n ≤ 9223372036854775807) :
    Calls Try.prog 4 #[.slice A n c] w fun e w' => e = .returned (.bool true) ∧ Below w.heap.size w w' := by
  have HR := Lib.hid (ring_any A n c es w w.heap.size h (Nat.le_refl _) hn)
  go_enter Try.func4, Try.ntmps4
  go_wp2_with (go_at_call 9; refine HR.out.mono ?_; rintro e w1 ⟨A1, n1, c1, rfl, hq1, hn1, hb1⟩)
  have hz1 := hb1.size
  have HF := Lib.hid (rings_any A n c es w1 w.heap.size (RS.below' h hb1 (Nat.le_refl _)) hz1 hn)
  have HQ1 := Lib.hid hq1
  clear hq1 HR
  go_wp2_with (go_at_call 10; refine HF.out.mono ?_; rintro e w2 ⟨b, rfl, hq2, hb2⟩)
  have HB := Lib.hid (hb1.trans (hb2.mono hz1))
  have hqq : 0 < n1 ↔ b = true := HQ1.out.trans hq2.symm
  clear hq2 HQ1 hb1 hb2 HF
  generalize ringErr es = re
  by_cases h0 : 0 < n1
  · obtain rfl : b = true := hqq.1 h0
    have hz : (0 : Int) < n1 := by omega
    have d : decide ((0 : Int) < n1) = true := by simpa using hz
    clear hqq
    go_wp2
    go_ret
    exact ⟨by simp [h0], HB.out⟩
  · obtain rfl : n1 = 0 := by omega
    have hbf : b = false := by
      cases b with
      | false => rfl
      | true => exact absurd (hqq.2 rfl) h0
    subst hbf
    clear hqq
    go_wp2
    go_ret
    exact ⟨by simp, HB.out⟩
end Go.Proofs.Ytmfalafolpfhiaa
