/- Contracts of asm.Place and ringref4.AsmPlace where nothing is out of bounds. -/
import Derived.Test.YtmndmdipjfblhaaBlA
import Derived.Laws.BitsAllLaws
namespace Go.Proofs.Ytmndmdipjfblhaa
open Go.RowKit
set_option maxHeartbeats 400000
set_option linter.unusedVariables false
set_option linter.unusedSimpArgs false
theorem bl_high (a : Nat) (h : a < 4294967296) : a &&& 4294901760 = a / 65536 * 65536 := by
  have e1 : a / 65536 * 65536 = (a >>> 16) <<< 16 := by rw [Nat.shiftRight_eq_div_pow, Nat.shiftLeft_eq]
  have e2 : 4294901760 = (2 ^ 16 - 1) <<< 16 := by decide
  rw [e1, e2]
  apply Nat.eq_of_testBit_eq
  intro i
  rw [Nat.testBit_and, Nat.testBit_shiftLeft, Nat.testBit_shiftLeft, Nat.testBit_two_pow_sub_one, Nat.testBit_shiftRight]
  by_cases h1 : 16 ≤ i
  · have e3 : 16 + (i - 16) = i := by omega
    rw [e3]
    by_cases h2 : i < 32
    · have : i - 16 < 16 := by omega
      simp [h1, this]
    · have : a.testBit i = false := Nat.testBit_lt_two_pow (Nat.lt_of_lt_of_le h (by show 2 ^ 32 ≤ 2 ^ i; exact Nat.pow_le_pow_right (by omega) (by omega)))
      simp [this]
  · simp [h1]
theorem bl_andNot {w : Int} (h0 : 0 ≤ w) (h1 : w < 4294967296) : bits .andNot .u32 w 65535 = w - w % 65536 := by
  rw [u32_andNot w 65535 h0 h1 (by omega) (by omega)]
  show ((w.toNat &&& 4294901760 : Nat) : Int) = _
  rw [bl_high _ (by omega)]
  omega
theorem bl_and {w : Int} (h0 : 0 ≤ w) (h1 : w < 4294967296) : bits .and .u32 w 65535 = w % 65536 := by
  rw [u32_and w 65535 h0 h1 (by omega) (by omega)]
  have := Nat.and_two_pow_sub_one_eq_mod w.toNat 16
  simp at this
  show ((w.toNat &&& 65535 : Nat) : Int) = _
  rw [this]
  omega
theorem bl_or {x y : Int} (h0 : 0 ≤ x) (h1 : x < 4294967296) (hm : x % 65536 = 0) (h2 : 0 ≤ y) (h3 : y < 65536) : bits .or .u32 x y = x + y := by
  rw [u32_or x y h0 h1 h2 (by omega)]
  have := Nat.two_pow_add_eq_or_of_lt (i := 16) (b := y.toNat) (by omega) (x.toNat / 65536)
  have e : 2 ^ 16 * (x.toNat / 65536) = x.toNat := by omega
  rw [e] at this
  rw [← this]
  omega
def PlaceP (w0 : World) (x : Int) (e : Ending) (w' : World) : Prop := e = .returned (.tuple #[.int .u32 x, .int .i64 0]) ∧ w' = w0
theorem PlaceP.of {w0 : World} {x y : Int} (h : x = y) : PlaceP w0 y (.returned (.tuple #[.int .u32 x, .int .i64 0])) w0 := by subst h; exact ⟨rfl, rfl⟩
set_option maxHeartbeats 1000000 in
set_option maxRecDepth 100000 in
theorem place_any (x k a to : Int) (w : World) (hx0 : 0 ≤ x) (hx1 : x < 4294967296) (hk1 : 1 ≤ k) (hk3 : k ≤ 3) (ha0 : 0 ≤ a) (ha1 : a ≤ 20000) (ht0 : 0 ≤ to) (ht1 : to ≤ 20000) :
    Calls Try.prog 23 #[.int .u32 x, .int .i64 k, .int .i64 a, .int .i64 to] w (PlaceP w (plW x k a to)) := by
  have hA := bl_andNot hx0 hx1
  have hB : bits .and .u32 to 65535 = to % 65536 := by rw [bl_and (by omega) (by omega)]
  have hC : bits .and .u32 ((to - a) % 4294967296) 65535 = (to - a) % 65536 := by rw [bl_and (by omega) (by omega)]; omega
  have hD : bits .or .u32 (x - x % 65536) (to % 65536) = x - x % 65536 + to % 65536 := bl_or (by omega) (by omega) (by omega) (by omega) (by omega)
  have hE : bits .or .u32 (x - x % 65536) ((to - a) % 65536) = x - x % 65536 + (to - a) % 65536 := bl_or (by omega) (by omega) (by omega) (by omega) (by omega)
  have hto : IntKind.u32.wrap to = to := by rw [IntKind.wrap_u32']; omega
  rcases (by omega : k = 3 ∨ k = 1 ∨ k = 2) with rfl | rfl | rfl
  · have H := Lib.hid (show to = plW x 3 a to by unfold plW; rfl)
    clear hA hB hC hD hE
    go_enter Try.func23, Try.ntmps23
    go_wp2
    go_ret2
    exact PlaceP.of (by rw [← H.out])
  · have H := Lib.hid (show x - x % 65536 + (to - a) % 65536 = plW x 1 a to by unfold plW; rfl)
    clear hB hD hto
    go_enter Try.func23, Try.ntmps23
    go_wp2
    go_ret2
    refine PlaceP.of ?_
    rw [← H.out]
  · have H := Lib.hid (show x - x % 65536 + to % 65536 = plW x 2 a to by unfold plW; rfl)
    clear hC hE hto
    go_enter Try.func23, Try.ntmps23
    go_wp2
    go_ret2
    refine PlaceP.of ?_
    rw [← H.out]
theorem big_any (n : Int) (w : World) (h0 : 0 ≤ n) (h1 : n ≤ 20000) : Calls Try.prog 24 #[.int .i64 n] w fun e w' => e = .returned (.bool false) ∧ w' = w := by
  go_enter Try.func24, Try.ntmps24
  go_wp2
  go_ret
  exact ⟨ob_bool (by simp; omega), rfl⟩
set_option maxHeartbeats 1000000 in
set_option maxRecDepth 100000 in
theorem asmPlace_any (x k a to : Int) (w : World) (hx0 : 0 ≤ x) (hx1 : x < 4294967296) (hk1 : 1 ≤ k) (hk3 : k ≤ 3) (ha0 : 0 ≤ a) (ha1 : a ≤ 20000) (ht0 : 0 ≤ to) (ht1 : to ≤ 20000) :
    Calls Try.prog 20 #[.int .u32 x, .int .i64 k, .int .i64 a, .int .i64 to] w (PlaceP w (plW x k a to)) := by
  have HB := Lib.hid (fun (n : Int) (h0 : 0 ≤ n) (h1 : n ≤ 20000) => big_any n w h0 h1)
  rcases (by omega : k = 3 ∨ k = 1 ∨ k = 2) with rfl | rfl | rfl
  · have H := Lib.hid (show to = plW x 3 a to by unfold plW; rfl)
    go_enter Try.func20, Try.ntmps20
    go_wp2_with fail
    refine (HB.out to ht0 ht1).mono ?_
    rintro e w' ⟨rfl, rfl⟩
    go_wp2
    go_ret2
    exact PlaceP.of (by rw [← H.out])
  · have H := Lib.hid (show x - x % 65536 + (to - a) % 65536 = plW x 1 a to by unfold plW; rfl)
    go_enter Try.func20, Try.ntmps20
    go_wp2_with fail
    refine (HB.out a ha0 ha1).mono ?_
    rintro e w' ⟨rfl, rfl⟩
    go_wp2_with fail
    refine (HB.out to ht0 ht1).mono ?_
    rintro e w' ⟨rfl, rfl⟩
    by_cases hn : to - a < 0
    · go_wp2
      go_ret2
      exact PlaceP.of (by rw [← H.out]; omega)
    · go_wp2
      go_ret2
      exact PlaceP.of (by rw [← H.out]; omega)
  · have H := Lib.hid (show x - x % 65536 + to % 65536 = plW x 2 a to by unfold plW; rfl)
    go_enter Try.func20, Try.ntmps20
    go_wp2
    go_ret2
    exact PlaceP.of (by rw [← H.out]; omega)
end Go.Proofs.Ytmndmdipjfblhaa
