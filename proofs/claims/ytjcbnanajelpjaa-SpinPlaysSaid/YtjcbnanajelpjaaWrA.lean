/- Contracts of wrap.Far, wrap.Less, ringref1.Far. -/
import Derived.Test.YtjcbnanajelpjaaProg
import Derived.Test.YtjcbnanajelpjaaNear
import Derived.Test.YtjcbnanajelpjaaMem
import Derived.Test.YtjcbnanajelpjaaFlow
import Derived.Test.YtjcbnanajelpjaaOpen
import Derived.WalkSpells
import Derived.WalkLawsBesides
import Derived.Outline
import Derived.LoopTactic
import Derived.Deep.Light
import Derived.Laws.BitsAllLaws
import Derived.Laws.MakeOwn
namespace Go.Proofs.Ytjcbnanajelpjaa
open Go.RowKit
set_option maxHeartbeats 400000
set_option linter.unusedVariables false
set_option linter.unusedSimpArgs false
theorem ret_bool {a b : Bool} (h : a = b) : Ending.returned (.bool a) = .returned (.bool b) := by rw [h]
theorem ret_int {k : IntKind} {a b : Int} (h : a = b) : Ending.returned (.int k a) = .returned (.int k b) := by rw [h]
/-- P01.1. -/
def farI (a b : Int) : Int := (b - a + 2147483648) % 4294967296 - 2147483648
def U32 (a : Int) : Prop := 0 ≤ a ∧ a < 4294967296
theorem far_any (a b : Int) (w : World) (ha : U32 a) (hb : U32 b) : Calls Try.prog 14 #[.int .u32 a, .int .u32 b] w fun e w' => e = .returned (.int .i64 (farI a b)) ∧ w = w' := by
  obtain ⟨a0, a1⟩ := ha
  obtain ⟨b0, b1⟩ := hb
  go_enter Try.func14, Try.ntmps14
  go_wp2
  go_ret
  refine ⟨ret_int ?_, rfl⟩
  unfold farI wrap64 wrap32
  omega
theorem less_any (a b : Int) (w : World) (ha : U32 a) (hb : U32 b) : Calls Try.prog 15 #[.int .u32 a, .int .u32 b] w fun e w' => e = .returned (.bool (decide (0 < farI a b))) ∧ w = w' := by
  go_enter Try.func15, Try.ntmps15
  go_wp2_with (go_at_call 14; refine (far_any a b _ ha hb).mono ?_; rintro e w1 ⟨rfl, rfl⟩)
  go_ret
  exact ⟨rfl, rfl⟩
theorem refFar_any (a b : Int) (w : World) (ha : U32 a) (hb : U32 b) : Calls Try.prog 13 #[.int .u32 a, .int .u32 b] w fun e w' => e = .returned (.int .i64 (farI a b)) ∧ w = w' := by
  obtain ⟨a0, a1⟩ := ha
  obtain ⟨b0, b1⟩ := hb
  go_enter Try.func13, Try.ntmps13
  go_wp2
  go_loopw [5] (fun v wr => ∃ d : Int, v = .int .i64 d ∧ (d + 2147483648) % 4294967296 = (b - a + 2147483648) % 4294967296 ∧ -4294967296 < d ∧ d < 4294967296 ∧ w = wr) (fun v _ => (-2147483648 - intOf v).toNat)
  case atStart => exact ⟨b - a, rfl, rfl, by omega, by omega, rfl⟩
  case round =>
    obtain ⟨d, rfl, hd, d0, d1, rfl⟩ := hrel
    have HD := Lib.hid hd
    clear hd
    by_cases hl : d < -2147483648
    · go_wp2
      go_roundw
      case rel => exact ⟨d + 4294967296, rfl, by have := HD.out; omega, by omega, by omega, trivial⟩
      case measure => simp only [intOf]; omega
    · go_wp2
      go_loopw [5] (fun v wr => ∃ d : Int, v = .int .i64 d ∧ (d + 2147483648) % 4294967296 = (b - a + 2147483648) % 4294967296 ∧ -2147483648 ≤ d ∧ d < 4294967296 ∧ w = wr) (fun v _ => (intOf v - 2147483647).toNat)
      case atStart => exact ⟨d, rfl, HD.out, by omega, by omega, rfl⟩
      case round =>
        obtain ⟨d', rfl, hd', d0', d1', rfl⟩ := hrel
        have HD' := Lib.hid hd'
        clear hd'
        by_cases hl' : 2147483648 ≤ d'
        · go_wp2
          go_roundw
          case rel => exact ⟨d' - 4294967296, rfl, by have := HD'.out; omega, by omega, by omega, trivial⟩
          case measure => simp only [intOf]; omega
        · go_wp2
          go_ret
          exact ⟨ret_int (by unfold farI; have := HD'.out; omega), rfl⟩
end Go.Proofs.Ytjcbnanajelpjaa
