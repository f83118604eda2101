/- The law ringlaw4.RefsEarly. -/
import Derived.Test.YtjdbclcafjlohaaReE
namespace Go.Proofs.Ytjdbclcafjlohaa
open Go.RowKit
set_option maxHeartbeats 400000
set_option linter.unusedVariables false
set_option linter.unusedSimpArgs false
set_option maxHeartbeats 4000000 in
set_option maxRecDepth 100000 in
theorem law_refsEarly (A : Option Addr) (n c : Nat) (rs : List Rc) (w : World) (h : RR w w.heap.size A n rs) (hnc : n ≤ c) (hn : n ≤ 9223372036854775807) :
    Calls Try.prog 7 #[.slice A n c] w fun e w' => e = .returned (.bool true) ∧ Below w.heap.size w w' := by
  go_enter Try.func7, Try.ntmps7
  go_wp2_with fail
  refine (early_any A n c rs _ w.heap.size h (Nat.le_refl _) hn).mono ?_
  rintro e w1 ⟨a1, b1, rfl, hi1, hb1⟩
  go_wp2_with fail
  refine (refEarly_any A n c rs _ w.heap.size (h.below' hb1 (Nat.le_refl _)) hb1.size hnc hn).mono ?_
  rintro e w2 ⟨a2, b2, rfl, hi2, hb2⟩
  obtain ⟨rfl, rfl⟩ := hi1.unique hi2
  have hbw2 : Below w.heap.size w w2 := hb1.trans (hb2.mono hb1.size)
  clear hi1 hi2
  go_wp2
  go_ret
  exact ⟨by simp, hbw2⟩
end Go.Proofs.Ytjdbclcafjlohaa
