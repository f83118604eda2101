/- load.word f22, bytes.Equal f24. -/
import Derived.Test.YtdgjcjhdclihpaaDoorLrA
import Derived.Laws.BitsAllLaws
namespace Go.Proofs.YtdgjcjhdclihpaaDoor
open Go.RowKit
set_option maxHeartbeats 400000
set_option linter.unusedVariables false
set_option linter.unusedSimpArgs false
theorem below_drewN {B : Nat} {w w' : World} (h : Below B w w') (n : Nat) : Below B w (w'.drewN n) := ⟨h.os, h.tape, h.output, h.size, h.block⟩
theorem equal_any (A A' : Option Addr) (n c n' c' : Nat) (xs ys : List Int) (w : World) (B B' : Nat) (h : RB w B A n xs) (h' : RB w B' A' n' ys) :
    Calls Tryd.prog 24 #[.slice A n c, .slice A' n' c'] w fun e w' => e = .returned (.bool (decide (xs = ys))) ∧ w' = w := by
  have e1 := h.conv (P := Tryd.prog) c 26 9 5 Tryd.underlying26 Tryd.underlying5 Tryd.underlying9
  have e2 := h'.conv (P := Tryd.prog) c' 26 9 5 Tryd.underlying26 Tryd.underlying5 Tryd.underlying9
  go_enter Tryd.func24, Tryd.ntmps24
  go_wp2
  go_ret
  exact ⟨by rw [strOfNums_beq h.2 h'.2]; rfl, rfl⟩
theorem or_add {a b i : Nat} (h : a < 2 ^ i) : a ||| b * 2 ^ i = a + b * 2 ^ i := by
  have h1 := Nat.shiftLeft_add_eq_or_of_lt h b
  rw [Nat.shiftLeft_eq] at h1
  rw [Nat.or_comm, ← h1, Nat.add_comm]
theorem u32_or_add {x y : Int} (i : Nat) (hx : 0 ≤ x) (hxi : x < 2 ^ i) (hy : 0 ≤ y) (h : x + y * 2 ^ i < 4294967296) : bits .or .u32 x (y * 2 ^ i) = x + y * 2 ^ i := by
  have hyi : 0 ≤ y * 2 ^ i := Int.mul_nonneg hy (Int.pow_nonneg (by decide))
  rw [u32_or x (y * 2 ^ i) hx (by omega) hyi (by omega)]
  obtain ⟨a, rfl⟩ := Int.eq_ofNat_of_zero_le hx
  obtain ⟨b, rfl⟩ := Int.eq_ofNat_of_zero_le hy
  have h1 : a < 2 ^ i := by exact_mod_cast hxi
  have h2 := or_add (b := b) h1
  have e1 : (((b : Nat) : Int) * 2 ^ i).toNat = b * 2 ^ i := by
    rw [show ((b : Nat) : Int) * 2 ^ i = ((b * 2 ^ i : Nat) : Int) by push_cast; rfl]
    exact Int.toNat_natCast _
  rw [Int.toNat_natCast, e1, h2]
  push_cast
  rfl
set_option maxHeartbeats 2000000 in
set_option maxRecDepth 100000 in
theorem word_any (A : Option Addr) (n c : Nat) (xs : List Int) (w : World) (B : Nat) (h : RB w B A n xs) (hB : B ≤ w.heap.size) (hn : 4 ≤ n) : Calls Tryd.prog 22 #[.slice A n c] w (U32Is (wordS xs) w) := by
  obtain ⟨b, o, rfl, hb, hc0, p0, q0⟩ := h.at_ (show 0 < n by omega)
  obtain ⟨b1, o1, e1, _, hc1, p1, q1⟩ := h.at_ (show 1 < n by omega)
  obtain ⟨b2, o2, e2, _, hc2, p2, q2⟩ := h.at_ (show 2 < n by omega)
  obtain ⟨b3, o3, e3, _, hc3, p3, q3⟩ := h.at_ (show 3 < n by omega)
  injection e1 with e1
  injection e1 with e1 e1'
  injection e2 with e2
  injection e2 with e2 e2'
  injection e3 with e3
  injection e3 with e3 e3'
  subst e1; subst e1'; subst e2; subst e2'; subst e3; subst e3'
  have HW : Hid (wordS xs = xs.getD 0 0 + 256 * xs.getD 1 0 + 65536 * xs.getD 2 0 + 16777216 * xs.getD 3 0) := Lib.hid rfl
  generalize xs.getD 0 0 = x0 at *
  generalize xs.getD 1 0 = x1 at *
  generalize xs.getD 2 0 = x2 at *
  generalize xs.getD 3 0 = x3 at *
  rw [Nat.add_zero] at hc0
  have w0 : IntKind.u32.wrap x0 = x0 := by rw [IntKind.wrap_u32]; omega
  have w1 : IntKind.u32.wrap x1 = x1 := by rw [IntKind.wrap_u32]; omega
  have w2 : IntKind.u32.wrap x2 = x2 := by rw [IntKind.wrap_u32]; omega
  have w3 : IntKind.u32.wrap x3 = x3 := by rw [IntKind.wrap_u32]; omega
  have r1 : bits .or .u32 x0 (x1 * 256) = x0 + x1 * 256 := u32_or_add 8 (by omega) (by omega) (by omega) (by omega)
  have r2 : bits .or .u32 (x0 + x1 * 256) (x2 * 65536) = x0 + x1 * 256 + x2 * 65536 := u32_or_add 16 (by omega) (by omega) (by omega) (by omega)
  have r3 : bits .or .u32 (x0 + x1 * 256 + x2 * 65536) (x3 * 16777216) = x0 + x1 * 256 + x2 * 65536 + x3 * 16777216 := u32_or_add 24 (by omega) (by omega) (by omega) (by omega)
  have HV : Hid (wordS xs = x0 + x1 * 256 + x2 * 65536 + x3 * 16777216) := Lib.hid (by rw [HW.out]; omega)
  go_enter Tryd.func22, Tryd.ntmps22
  go_wp2_with fail
  refine wp_region_quiet_lit (by kernel_rfl) (by kernel_rfl) ?_
  repeat (go_big_quiet_step (fail))
  refine wpQuiet_nil ?_
  rintro w4 ⟨kn, rfl⟩
  go_wp2
  go_ret
  exact ⟨by rw [HV.out]; rfl, below_drewN (Below.refl _ _) _⟩
end Go.Proofs.YtdgjcjhdclihpaaDoor
