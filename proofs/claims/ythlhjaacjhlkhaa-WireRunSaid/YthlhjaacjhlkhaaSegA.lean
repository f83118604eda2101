/- The contracts of seg.Before, ringref4.SegBefore, seg.Span, ringref4.SegSpan: what each returns, for every argument. -/
import Derived.Test.YthlhjaacjhlkhaaProg
import Derived.Test.YthlhjaacjhlkhaaNear
import Derived.WalkSpells
import Derived.WalkLawsBesides
import Derived.Outline
namespace Go.Proofs.Ythlhjaacjhlkhaa
open Go.RowKit
set_option maxHeartbeats 400000
set_option linter.unusedVariables false

theorem ret_bool {a b : Bool} (h : a = b) : Ending.returned (.bool a) = .returned (.bool b) := by rw [h]
theorem ret_int {k : IntKind} {a b : Int} (h : a = b) : Ending.returned (.int k a) = .returned (.int k b) := by rw [h]

/-- P50.5. -/
def befB (a b : Int) : Bool := decide (1 ≤ (b - a) % 4294967296 ∧ (b - a) % 4294967296 ≤ 2147483648)

theorem before_any (a b : Int) (w : World) :
    Calls Try.prog 10 #[.int .u32 a, .int .u32 b] w fun e w' => e = .returned (.bool (befB a b)) ∧ w = w' := by
  go_enter Try.func10, Try.ntmps10
  go_wp2
  go_ret
  refine ⟨ret_bool ?_, rfl⟩
  unfold befB
  rw [decide_eq_decide]
  unfold wrap32
  omega

theorem segBefore_any (a b : Int) (w : World) :
    Calls Try.prog 11 #[.int .u32 a, .int .u32 b] w fun e w' => e = .returned (.bool (befB a b)) ∧ w = w' := by
  go_enter Try.func11, Try.ntmps11
  go_wp2
  all_goals (go_ret; refine ⟨ret_bool ?_, rfl⟩; unfold befB)
  · rw [decide_eq_decide]; omega
  · symm; rw [decide_eq_false_iff_not]; omega

theorem toNat_ofInt64 (x : Int) : ((BitVec.ofInt 64 x).toNat : Int) = x % 18446744073709551616 := by
  rw [BitVec.toNat_ofInt]; omega
theorem and_i64 (x : Int) (k : Nat) (hk : k < 9223372036854775808) : bits .and .i64 x k = (((x % 18446744073709551616).toNat &&& k : Nat) : Int) := by
  show IntKind.i64.wrap ((BitVec.ofInt 64 x &&& BitVec.ofInt 64 (k : Int)).toNat : Int) = _
  have h1 : (BitVec.ofInt 64 x).toNat = (x % 18446744073709551616).toNat := by rw [BitVec.toNat_ofInt]; rfl
  have h2 : (BitVec.ofInt 64 (k : Int)).toNat = k := by rw [BitVec.toNat_ofInt]; omega
  rw [BitVec.toNat_and, h1, h2]
  have h3 : (x % 18446744073709551616).toNat &&& k ≤ k := Nat.and_le_right
  exact IntWalk.i64_in _ (by omega)
theorem and1_i64 (x : Int) : bits .and .i64 x 1 = x % 2 := by
  have := and_i64 x 1 (by omega)
  rw [Nat.and_one_is_mod] at this
  rw [show (1 : Int) = ((1 : Nat) : Int) from rfl, this]; omega
theorem and4_i64 (x : Int) : bits .and .i64 x 4 = x / 4 % 2 * 4 := by
  have := and_i64 x 4 (by omega)
  have e : ∀ a : Nat, a &&& 4 = a / 4 % 2 * 4 := fun a => by
    have h1 : (a &&& 4) / 4 = a / 4 % 2 := by
      have := @Nat.and_div_two_pow a 4 2
      rw [show (2 : Nat) ^ 2 = 4 from rfl, show 4 / 4 = 1 from rfl, Nat.and_one_is_mod] at this
      exact this
    have h2 : (a &&& 4) % 4 = 0 := by
      have := @Nat.and_mod_two_pow a 4 2
      rw [show (2 : Nat) ^ 2 = 4 from rfl, show 4 % 4 = 0 from rfl, Nat.and_zero] at this
      exact this
    omega
  rw [show (4 : Int) = ((4 : Nat) : Int) from rfl, this, e]; omega

/-- P50.6. -/
def spanI (n : Nat) (f : Int) : Int := wrap64 (n + f % 2 + f / 4 % 2)

theorem span_any (x1 x2 x3 x4 : Int) (p : Option Addr) (n c : Nat) (w : World) (hn : n ≤ maxLen) :
    Calls Try.prog 12 #[.agg #[.int .u32 x1, .int .u32 x2, .int .i64 x3, .int .i64 x4, .slice p n c]] w fun e w' => e = .returned (.int .i64 (spanI n x3)) ∧ Below w.heap.size w w' := by
  unfold maxLen at hn
  go_enter Try.func12, Try.ntmps12
  go_wp2
  all_goals
    rename_i h1 h2
    rw [and1_i64] at h1
    rw [and4_i64] at h2
    simp at h1 h2
    go_ret
    refine ⟨ret_int ?_, (Below.refl _ _).alloc (Nat.le_refl _) _⟩
    unfold spanI wrap64
    omega
theorem segSpan_any (x1 x2 x3 x4 : Int) (p : Option Addr) (n c : Nat) (w : World) (hn : n ≤ maxLen) :
    Calls Try.prog 13 #[.agg #[.int .u32 x1, .int .u32 x2, .int .i64 x3, .int .i64 x4, .slice p n c]] w fun e w' => e = .returned (.int .i64 (spanI n x3)) ∧ Below w.heap.size w w' := by
  unfold maxLen at hn
  go_enter Try.func13, Try.ntmps13
  go_wp2
  go_ret
  refine ⟨ret_int ?_, (Below.refl _ _).alloc (Nat.le_refl _) _⟩
  simp only [and1_i64]
  unfold spanI wrap64
  omega

theorem law_places (a b x1 x2 x3 x4 : Int) (p : Option Addr) (n c : Nat) (w : World) (hn : n ≤ maxLen) :
    Calls Try.prog 3 #[.int .u32 a, .int .u32 b, .agg #[.int .u32 x1, .int .u32 x2, .int .i64 x3, .int .i64 x4, .slice p n c]] w fun e w' => e = .returned (.bool true) ∧ Below w.heap.size w w' := by
  go_enter Try.func3, Try.ntmps3
  go_wp2
  refine wp_region_near (w.heap.size + 1) (by kernel_rfl) (by kernel_rfl) ?_
  repeat (go_big_quiet_step (first
    | (go_at_call 10; exact Calls.near_same (before_any _ _ _))
    | (go_at_call 11; exact Calls.near_same (segBefore_any _ _ _))
    | (go_at_call 12; exact Calls.near (by have := Near.size ‹Near _ _›; simp at this; omega) (span_any _ _ _ _ _ _ _ _ hn))
    | (go_at_call 13; exact Calls.near (by have := Near.size ‹Near _ _›; simp at this; omega) (segSpan_any _ _ _ _ _ _ _ _ hn))))
  refine wpQuiet_nil ?_
  intro w1 hb
  go_wp2
  go_ret
  exact ⟨rfl, ((Below.refl _ _).alloc (Nat.le_refl _) _).trans (hb.mono (by omega))⟩
end Go.Proofs.Ythlhjaacjhlkhaa
