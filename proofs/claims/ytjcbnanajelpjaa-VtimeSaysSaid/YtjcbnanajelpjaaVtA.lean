/- Contracts of vtime.Cost, vtime.After, vtime.Lag, ringref1.Weight, ringref1.Cost. -/
import Derived.Test.YtjcbnanajelpjaaWrA
namespace Go.Proofs.Ytjcbnanajelpjaa
open Go.RowKit
set_option maxHeartbeats 400000
set_option linter.unusedVariables false
set_option linter.unusedSimpArgs false
def WOk (x : Int) : Prop := 1 ≤ x ∧ x ≤ 100
def TOk (x : Int) : Prop := 0 ≤ x ∧ x ≤ 1073741824
def VOk (x : Int) : Prop := 0 ≤ x ∧ x ≤ 1152921504606846976
def Two (a b : Int) (w : World) (e : Ending) (w' : World) : Prop := e = .returned (.tuple #[.int .i64 a, .int .i64 b]) ∧ w = w'
theorem cost_ok (x : Int) (w : World) (h : WOk x) : Calls Try.prog 16 #[.int .i64 x] w (Two (1048576 / x) 0 w) := by
  obtain ⟨h0, h1⟩ := h
  have hz : ¬ x = 0 := by omega
  go_enter Try.func16, Try.ntmps16
  go_wp2
  go_ret2
  exact ⟨rfl, rfl⟩
theorem cost_bad (x : Int) (w : World) (h : ¬ WOk x) : Calls Try.prog 16 #[.int .i64 x] w (Two 0 1 w) := by
  by_cases h0 : x < 1
  · go_enter Try.func16, Try.ntmps16
    go_wp2
    go_ret2
    exact ⟨rfl, rfl⟩
  · have h1 : 100 < x := by unfold WOk at h; omega
    clear h
    go_enter Try.func16, Try.ntmps16
    go_wp2
    go_ret2
    exact ⟨rfl, rfl⟩
theorem weight_ok (x : Int) (w : World) (h : WOk x) : Calls Try.prog 19 #[.int .i64 x] w fun e w' => e = .returned (.bool true) ∧ w = w' := by
  obtain ⟨h0, h1⟩ := h
  go_enter Try.func19, Try.ntmps19
  go_wp2
  go_ret
  exact ⟨ret_bool (by simp), rfl⟩
theorem weight_bad (x : Int) (w : World) (h : ¬ WOk x) : Calls Try.prog 19 #[.int .i64 x] w fun e w' => e = .returned (.bool false) ∧ w = w' := by
  by_cases h0 : 1 ≤ x
  · have h1 : ¬ x ≤ 100 := fun h' => h ⟨h0, h'⟩
    clear h
    go_enter Try.func19, Try.ntmps19
    go_wp2
    go_ret
    exact ⟨ret_bool (by simp), rfl⟩
  · clear h
    go_enter Try.func19, Try.ntmps19
    go_wp2
    go_ret
    exact ⟨rfl, rfl⟩
theorem refCost_any (x : Int) (w : World) (h : WOk x) : Calls Try.prog 20 #[.int .i64 x] w fun e w' => e = .returned (.int .i64 (1048576 / x)) ∧ w = w' := by
  obtain ⟨h0, h1⟩ := h
  have hz : ¬ x = 0 := by omega
  go_enter Try.func20, Try.ntmps20
  go_wp2
  go_ret
  exact ⟨rfl, rfl⟩
theorem after_bad1 (v x t : Int) (w : World) (h : ¬ WOk x) : Calls Try.prog 17 #[.int .i64 v, .int .i64 x, .int .i64 t] w (Two 0 1 w) := by
  go_enter Try.func17, Try.ntmps17
  go_wp2_with (go_at_call 16; refine (cost_bad x _ h).mono ?_; rintro e w1 ⟨rfl, rfl⟩)
  go_ret2
  exact ⟨rfl, rfl⟩
theorem after_bad2 (v x t : Int) (w : World) (h : WOk x) (hb : ¬ (VOk v ∧ TOk t)) : Calls Try.prog 17 #[.int .i64 v, .int .i64 x, .int .i64 t] w (Two 0 1 w) := by
  have HX := Lib.hid h
  have arm : (v < 0 ∨ 1152921504606846976 < v ∨ t < 0 ∨ 1073741824 < t) := by unfold VOk TOk at hb; omega
  clear hb h
  by_cases a0 : v < 0
  · clear arm
    go_enter Try.func17, Try.ntmps17
    go_wp2_with (go_at_call 16; refine (cost_ok x _ HX.out).mono ?_; rintro e w1 ⟨rfl, rfl⟩)
    go_ret2
    exact ⟨rfl, rfl⟩
  by_cases a1 : 1152921504606846976 < v
  · clear arm
    go_enter Try.func17, Try.ntmps17
    go_wp2_with (go_at_call 16; refine (cost_ok x _ HX.out).mono ?_; rintro e w1 ⟨rfl, rfl⟩)
    go_ret2
    exact ⟨rfl, rfl⟩
  by_cases a2 : t < 0
  · clear arm
    go_enter Try.func17, Try.ntmps17
    go_wp2_with (go_at_call 16; refine (cost_ok x _ HX.out).mono ?_; rintro e w1 ⟨rfl, rfl⟩)
    go_ret2
    exact ⟨rfl, rfl⟩
  have a3 : 1073741824 < t := by omega
  clear arm
  go_enter Try.func17, Try.ntmps17
  go_wp2_with (go_at_call 16; refine (cost_ok x _ HX.out).mono ?_; rintro e w1 ⟨rfl, rfl⟩)
  go_ret2
  exact ⟨rfl, rfl⟩
theorem mul_bound (c t : Int) (hc : 0 ≤ c ∧ c ≤ 1048576) (ht : TOk t) : 0 ≤ c * t ∧ c * t ≤ 1125899906842624 := by
  refine ⟨Int.mul_nonneg hc.1 ht.1, ?_⟩
  calc c * t ≤ 1048576 * t := Int.mul_le_mul_of_nonneg_right hc.2 ht.1
    _ ≤ 1048576 * 1073741824 := Int.mul_le_mul_of_nonneg_left ht.2 (by decide)
theorem cost_rng (x : Int) (h : WOk x) : 0 ≤ 1048576 / x ∧ 1048576 / x ≤ 1048576 := ⟨Int.ediv_nonneg (by decide) (by have := h.1; omega), Int.ediv_le_self _ (by decide)⟩
theorem after_ok (v x t : Int) (w : World) (h : WOk x) (hv : VOk v) (ht : TOk t) : Calls Try.prog 17 #[.int .i64 v, .int .i64 x, .int .i64 t] w (Two (v + 1048576 / x * t) 0 w) := by
  have HX := Lib.hid h
  have hm := mul_bound _ t (cost_rng x h) ht
  obtain ⟨v0, v1⟩ := hv
  obtain ⟨t0, t1⟩ := ht
  clear h
  generalize hc : 1048576 / x = c at *
  have HC := Lib.hid hc
  clear hc
  go_enter Try.func17, Try.ntmps17
  go_wp2_with (go_at_call 16; refine (cost_ok x _ HX.out).mono ?_; rintro e w1 ⟨rfl, rfl⟩; rw [HC.out])
  go_ret2
  exact ⟨rfl, rfl⟩
end Go.Proofs.Ytjcbnanajelpjaa
