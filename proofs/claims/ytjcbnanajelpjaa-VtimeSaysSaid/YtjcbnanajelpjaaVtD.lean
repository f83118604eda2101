/- The law ringlaw1.VtimeSays, with a cut. -/
import Derived.Test.YtjcbnanajelpjaaVtB
import Derived.Deep.Cut
import Derived.Deep.CutRange
import Derived.Deep.DeepCutAuto
import Derived.Outline
namespace Go.Proofs.Ytjcbnanajelpjaa
open Go.RowKit
set_option maxHeartbeats 4000000
set_option linter.unusedVariables false
set_option linter.unusedSimpArgs false
theorem cost_three (w : World) : Calls Try.prog 16 #[.int .i64 3] w (Two 349525 0 w) := cost_ok 3 w ⟨by decide, by decide⟩
def CostIs (x a b : Int) : Prop := (WOk x ∧ a = 1048576 / x ∧ b = 0) ∨ (¬ WOk x ∧ a = 0 ∧ b = 1)
theorem cost_is (x : Int) (w : World) : Calls Try.prog 16 #[.int .i64 x] w fun e w' => ∃ a b, e = .returned (.tuple #[.int .i64 a, .int .i64 b]) ∧ Hid (CostIs x a b) ∧ w = w' := by
  by_cases h : WOk x
  · exact (cost_ok x w h).mono fun e w' ⟨h1, h2⟩ => ⟨_, _, h1, Lib.hid (.inl ⟨h, rfl, rfl⟩), h2⟩
  · exact (cost_bad x w h).mono fun e w' ⟨h1, h2⟩ => ⟨_, _, h1, Lib.hid (.inr ⟨h, rfl, rfl⟩), h2⟩
def AfterIs (v x t a b : Int) : Prop := (WOk x ∧ VOk v ∧ TOk t ∧ a = v + 1048576 / x * t ∧ b = 0) ∨ (¬ (WOk x ∧ VOk v ∧ TOk t) ∧ a = 0 ∧ b = 1)
theorem after_is (v x t : Int) (w : World) : Calls Try.prog 17 #[.int .i64 v, .int .i64 x, .int .i64 t] w fun e w' => ∃ a b, e = .returned (.tuple #[.int .i64 a, .int .i64 b]) ∧ Hid (AfterIs v x t a b) ∧ w = w' := by
  by_cases h : WOk x
  · by_cases h' : VOk v ∧ TOk t
    · exact (after_ok v x t w h h'.1 h'.2).mono fun e w' ⟨h1, h2⟩ => ⟨_, _, h1, Lib.hid (.inl ⟨h, h'.1, h'.2, rfl, rfl⟩), h2⟩
    · exact (after_bad2 v x t w h h').mono fun e w' ⟨h1, h2⟩ => ⟨_, _, h1, Lib.hid (.inr ⟨fun h'' => h' h''.2, rfl, rfl⟩), h2⟩
  · exact (after_bad1 v x t w h).mono fun e w' ⟨h1, h2⟩ => ⟨_, _, h1, Lib.hid (.inr ⟨fun h'' => h h''.1, rfl, rfl⟩), h2⟩
def wB (x : Int) : Bool := decide (1 ≤ x ∧ x ≤ 100)
theorem wB_ok {x : Int} (h : WOk x) : wB x = true := by unfold wB; exact decide_eq_true h
theorem wB_bad {x : Int} (h : ¬ WOk x) : wB x = false := by unfold wB; exact decide_eq_false h
theorem weight_is (x : Int) (w : World) : Calls Try.prog 19 #[.int .i64 x] w fun e w' => e = .returned (.bool (wB x)) ∧ w = w' := by
  by_cases h : WOk x
  · rw [wB_ok h]; exact weight_ok x w h
  · rw [wB_bad h]; exact weight_bad x w h
theorem CostIs.ok {x a b : Int} (h : CostIs x a b) (hx : WOk x) : a = 1048576 / x ∧ b = 0 := by
  rcases h with h | h
  · exact h.2
  · exact absurd hx h.1
theorem CostIs.bad {x a b : Int} (h : CostIs x a b) (hx : ¬ WOk x) : a = 0 ∧ b = 1 := by
  rcases h with h | h
  · exact absurd h.1 hx
  · exact h.2
theorem AfterIs.ok {v x t a b : Int} (h : AfterIs v x t a b) (hx : WOk x) (hv : VOk v ∧ TOk t) : a = v + 1048576 / x * t ∧ b = 0 := by
  rcases h with h | h
  · exact h.2.2.2
  · exact absurd ⟨hx, hv⟩ h.1
theorem AfterIs.bad {v x t a b : Int} (h : AfterIs v x t a b) (hx : ¬ (WOk x ∧ VOk v ∧ TOk t)) : a = 0 ∧ b = 1 := by
  rcases h with h | h
  · exact absurd ⟨h.1, h.2.1, h.2.2.1⟩ hx
  · exact h.2
theorem LagTells.of_bad {ws ts : List Int} {n k : Nat} {i a b : Int} (h : LagTells ws ts n i a b) (hk : k < n) (hb : ¬ OkAt ws ts k) : a = 0 ∧ b = 1 := by
  rcases h with ⟨_, _, _, h1, h2⟩ | ⟨h, _⟩
  · exact ⟨h1, h2⟩
  · exact absurd (h k hk) hb
theorem LagTells.of_all {ws ts : List Int} {n : Nat} {i a b : Int} (h : LagTells ws ts n i a b) (hk : ∀ k, k < n → OkAt ws ts k) : ((i < 0 ∨ (n : Int) ≤ i) ∧ a = 0 ∧ b = 4 ∨ (0 ≤ i ∧ i < n) ∧ a = sumI ts * ws.getD i.toNat 0 - ts.getD i.toNat 0 * sumI ws ∧ b = 0) := by
  rcases h with ⟨k, h1, h2, _⟩ | ⟨_, h⟩
  · exact absurd (hk k h1) h2
  · exact h
def LagIs (ws ts : List Int) (n n' : Nat) (i a b : Int) : Prop := ((16 < n ∨ 16 < n') ∧ a = 0 ∧ b = 2) ∨ (n ≤ 16 ∧ n' ≤ 16 ∧ n ≠ n' ∧ a = 0 ∧ b = 3) ∨ (n ≤ 16 ∧ n = n' ∧ LagTells ws ts n i a b)
theorem LagIs.large {ws ts : List Int} {n n' : Nat} {i a b : Int} (h : LagIs ws ts n n' i a b) (hl : 16 < n ∨ 16 < n') : a = 0 ∧ b = 2 := by
  rcases h with h | h | h
  · exact h.2
  · omega
  · omega
theorem LagIs.form {ws ts : List Int} {n n' : Nat} {i a b : Int} (h : LagIs ws ts n n' i a b) (h0 : ¬ 16 < n) (h1 : ¬ 16 < n') (hl : ¬ n = n') : a = 0 ∧ b = 3 := by
  rcases h with h | h | h
  · omega
  · exact h.2.2.2
  · omega
theorem LagIs.same {ws ts : List Int} {n : Nat} {i a b : Int} (h : LagIs ws ts n n i a b) (h0 : ¬ 16 < n) : LagTells ws ts n i a b := by
  rcases h with h | h | h
  · omega
  · omega
  · exact h.2.2
theorem lag_is (A A' : Option Addr) (n c n' c' : Nat) (ws ts : List Int) (i : Int) (w : World) (h : RI .i64 w w.heap.size A n ws) (h' : RI .i64 w w.heap.size A' n' ts) (hn : n ≤ 9223372036854775807) (hn' : n' ≤ 9223372036854775807) :
    Calls Try.prog 18 #[.slice A n c, .slice A' n' c', .int .i64 i] w fun e w' => ∃ a b, e = .returned (.tuple #[.int .i64 a, .int .i64 b]) ∧ Hid (LagIs ws ts n n' i a b) ∧ Below w.heap.size w w' := by
  by_cases h0 : 16 < n ∨ 16 < n'
  · exact (lag_large A A' n c n' c' i w h0).mono fun e w' ⟨h1, h2⟩ => ⟨_, _, h1, Lib.hid (.inl ⟨h0, rfl, rfl⟩), h2⟩
  · by_cases h3 : n = n'
    · subst h3
      exact (lag_same A A' n c c' ws ts i w h h' (by omega)).mono fun e w' ⟨a, b, h1, h2, h4⟩ => ⟨a, b, h1, Lib.hid (.inr (.inr ⟨by omega, rfl, h2⟩)), h4⟩
    · exact (lag_form A A' n c n' c' i w (by omega) (by omega) h3).mono fun e w' ⟨h1, h2⟩ => ⟨_, _, h1, Lib.hid (.inr (.inl ⟨by omega, by omega, h3, rfl, rfl⟩)), h2⟩
set_option maxRecDepth 100000 in
theorem law_vtime (v x t : Int) (A A' : Option Addr) (n c n' c' : Nat) (ws ts : List Int) (i : Int) (w : World) (h : RI .i64 w w.heap.size A n ws) (h' : RI .i64 w w.heap.size A' n' ts) (hn : n ≤ 9223372036854775807) (hn' : n' ≤ 9223372036854775807) (hv : -9223372036854775808 ≤ v ∧ v ≤ 9223372036854775807) :
    Calls Try.prog 4 #[.int .i64 v, .int .i64 x, .int .i64 t, .slice A n c, .slice A' n' c', .int .i64 i] w fun e w' => e = .returned (.bool true) ∧ Below w.heap.size w w' := by
  go_enter Try.func4, Try.ntmps4
  go_wp2_with fail
  refine (cost_is x _).mono ?_
  rintro e w0 ⟨c1, e1, rfl, hci, rfl⟩
  go_wp2_with fail
  refine (after_is v x t _).mono ?_
  rintro e w0 ⟨a1, e2, rfl, hai, rfl⟩
  go_wp2_with fail
  refine (lag_is A A' n c n' c' ws ts i _ h h' hn hn').mono ?_
  rintro e w1 ⟨n3, e3, rfl, hli, hb1⟩
  go_wp2_with fail
  refine (cost_three _).mono ?_
  rintro e w0 ⟨rfl, rfl⟩
  go_upto_if 56 with (go_at_call 19; refine (weight_is x _).mono ?_; rintro e w0 ⟨rfl, rfl⟩)
  generalize hbb : wB x = bb
  have HB := Lib.hid hbb
  clear hbb
  go_cut [] (fun wx => wx = w1)
  case first =>
    by_cases hx : WOk x
    · obtain rfl : true = bb := (wB_ok hx).symm.trans HB.out
      have HX := Lib.hid hx
      obtain ⟨rfl, rfl⟩ := CostIs.ok hci.out hx
      by_cases hvt : VOk v ∧ TOk t
      · obtain ⟨rfl, rfl⟩ := AfterIs.ok hai.out hx hvt
        have hm := mul_bound _ t (cost_rng x hx) hvt.2
        obtain ⟨⟨v0, v1⟩, t0, t1⟩ := hvt
        clear hx hci hai HB
        generalize hc : 1048576 / x = cc at *
        have HC := Lib.hid hc
        clear hc
        have p0 : ¬ v < 0 := by omega
        have p1 : ¬ 1152921504606846976 < v := by omega
        have p2 : ¬ t < 0 := by omega
        have p3 : ¬ 1073741824 < t := by omega
        have pe : (v + cc * t - v != t * cc) = false := by simp only [bne_eq_false_iff_eq]; rw [Int.mul_comm]; omega
        have hm' : 0 ≤ t * cc ∧ t * cc ≤ 1125899906842624 := by rw [Int.mul_comm]; exact hm
        go_wp2_with (go_at_call 20; refine (refCost_any x _ HX.out).mono ?_; rintro e w0 ⟨rfl, rfl⟩; rw [HC.out])
        go_meet
        case rel => rfl
      · obtain ⟨rfl, rfl⟩ := AfterIs.bad hai.out (fun h => hvt h.2)
        have arm : (v < 0 ∨ 1152921504606846976 < v ∨ t < 0 ∨ 1073741824 < t) := by unfold VOk TOk at hvt; omega
        clear hx hci hai HB hvt
        generalize hc : 1048576 / x = cc at *
        have HC := Lib.hid hc
        clear hc
        by_cases p0 : v < 0
        · clear arm
          go_wp2_with (go_at_call 20; refine (refCost_any x _ HX.out).mono ?_; rintro e w0 ⟨rfl, rfl⟩; rw [HC.out])
          go_meet
          case rel => rfl
        by_cases p1 : 1152921504606846976 < v
        · clear arm
          go_wp2_with (go_at_call 20; refine (refCost_any x _ HX.out).mono ?_; rintro e w0 ⟨rfl, rfl⟩; rw [HC.out])
          go_meet
          case rel => rfl
        by_cases p2 : t < 0
        · clear arm
          go_wp2_with (go_at_call 20; refine (refCost_any x _ HX.out).mono ?_; rintro e w0 ⟨rfl, rfl⟩; rw [HC.out])
          go_meet
          case rel => rfl
        have p3 : 1073741824 < t := by omega
        clear arm
        go_wp2_with (go_at_call 20; refine (refCost_any x _ HX.out).mono ?_; rintro e w0 ⟨rfl, rfl⟩; rw [HC.out])
        go_meet
        case rel => rfl
    · obtain rfl : false = bb := (wB_bad hx).symm.trans HB.out
      obtain ⟨rfl, rfl⟩ := CostIs.bad hci.out hx
      obtain ⟨rfl, rfl⟩ := AfterIs.bad hai.out (fun h => hx h.1)
      clear hx hci hai HB
      go_wp2_with fail
      go_meet
      case rel => rfl
  case rest =>
    obtain rfl : wc = w1 := hcut
    clear hci hai HB
    by_cases hlarge : 16 < n ∨ 16 < n'
    · obtain ⟨rfl, rfl⟩ := hli.out.large hlarge
      by_cases q0 : 16 < n
      · clear hlarge
        go_wp2_with fail
        go_ret
        exact ⟨rfl, hb1⟩
      · have q1 : 16 < n' := by omega
        clear hlarge
        go_wp2_with fail
        go_ret
        exact ⟨rfl, hb1⟩
    have q0 : ¬ 16 < n := by omega
    have q1 : ¬ 16 < n' := by omega
    clear hlarge
    by_cases hnn : n = n'
    · subst hnn
      have hlt := Lib.hid (hli.out.same q0)
      clear hli
      have HL := Lib.hid h.len
      have HL' := Lib.hid h'.len
      have hd : decide (16 < (n : Int)) = false := by simp; omega
      have hrel0 : LagRel ws ts 0 (.int .i64 0) (.int .i64 0) := ⟨fun j hj => by omega, rfl, rfl⟩
      go_wp2_with fail
      go_loopw [21, 22, 23, 112] (fun s7 s8 s9 i wr => s7 = .int .i64 0 ∧ ∃ k : Nat, k ≤ n ∧ i = .int .i64 k ∧ LagRel ws ts k s8 s9 ∧ Below w.heap.size w wr) (fun _ _ _ i _ => n - (intOf i).toNat)
      case atStart => exact ⟨rfl, 0, by omega, rfl, hrel0, hb1⟩
      case round =>
        obtain ⟨rfl, k, hk, rfl, ⟨hg, rfl, rfl⟩, hbw⟩ := hrel
        clear hrel0
        have hsb := sum_bound ws ts k hg (by rw [HL.out]; exact hk) (by rw [HL'.out]; exact hk)
        have HG := Lib.hid hg
        clear hg
        by_cases hkn : k < n
        · obtain ⟨b, o, rfl, hb, c0, -⟩ := (h.below' hbw (Nat.le_refl _)).at_ hkn
          obtain ⟨b', o', rfl, hb', d0, -⟩ := (h'.below' hbw (Nat.le_refl _)).at_ hkn
          have hS := Lib.hid (sumI_take ws k (by rw [HL.out]; exact hkn))
          have hS' := Lib.hid (sumI_take ts k (by rw [HL'.out]; exact hkn))
          have hBad := Lib.hid (hlt.out.of_bad hkn)
          have hNext := Lib.hid (fun hb : OkAt ws ts k => good_next (p := OkAt ws ts) HG.out hb)
          unfold OkAt at hNext hBad
          have hb2 : b < wr.heap.size := Nat.lt_of_lt_of_le hb hbw.size
          have hb3 : b' < wr.heap.size := Nat.lt_of_lt_of_le hb' hbw.size
          have hkn' : (k : Int) < n := by omega
          generalize ws.getD k 0 = y at *
          generalize ts.getD k 0 = z at *
          generalize sumI (ws.take k) = sw at *
          generalize sumI (ts.take k) = st at *
          by_cases hy : WOk y
          · have HY := Lib.hid hy
            by_cases a2 : z < 0
            · obtain ⟨rfl, rfl⟩ := hBad.out (fun h => by have := h.2.1; omega)
              clear hy
              go_wp2_with (go_at_call 19; refine (weight_ok y _ HY.out).mono ?_; rintro e w0 ⟨rfl, rfl⟩)
              go_ret
              exact ⟨rfl, hbw⟩
            by_cases a3 : 1073741824 < z
            · obtain ⟨rfl, rfl⟩ := hBad.out (fun h => by have := h.2.2; omega)
              clear hy
              go_wp2_with (go_at_call 19; refine (weight_ok y _ HY.out).mono ?_; rintro e w0 ⟨rfl, rfl⟩)
              go_ret
              exact ⟨rfl, hbw⟩
            obtain ⟨hy0, hy1⟩ := hy
            go_wp2_with (go_at_call 19; refine (weight_ok y _ HY.out).mono ?_; rintro e w0 ⟨rfl, rfl⟩)
            refine wp_region_near wr.heap.size (by kernel_rfl) (by kernel_rfl) ?_
            repeat (go_big_quiet_step (fail))
            refine wpQuiet_nil ?_
            intro w3 hb4
            go_wp2_with fail
            go_roundw
            case rel => exact ⟨rfl, k + 1, by omega, by go_num, ⟨hNext.out ⟨HY.out, by omega, by omega⟩, by rw [hS'.out], by rw [hS.out]⟩, hbw.trans (hb4.mono hbw.size)⟩
            case measure => simp [intOf]; omega
          · obtain ⟨rfl, rfl⟩ := hBad.out (fun h => hy h.1)
            have HY := Lib.hid hy
            clear hy
            go_wp2_with (go_at_call 19; refine (weight_bad y _ HY.out).mono ?_; rintro e w0 ⟨rfl, rfl⟩)
            go_ret
            exact ⟨rfl, hbw⟩
        · obtain rfl : k = n := by omega
          rw [List.take_of_length_le (show ws.length ≤ k by rw [HL.out]; exact Nat.le_refl _)] at hsb ⊢
          rw [List.take_of_length_le (show ts.length ≤ k by rw [HL'.out]; exact Nat.le_refl _)] at hsb ⊢
          have hall := hlt.out.of_all HG.out
          by_cases hio : i < 0 ∨ (k : Int) ≤ i
          · have hall' : n3 = 0 ∧ e3 = 4 := by
              rcases hall with h | h
              · exact h.2
              · omega
            clear hall
            obtain ⟨rfl, rfl⟩ := hall'
            by_cases i0 : i < 0
            · clear hio
              go_wp2_with fail
              go_ret
              exact ⟨rfl, hbw⟩
            · have i1 : (k : Int) ≤ i := by omega
              clear hio
              go_wp2_with fail
              go_ret
              exact ⟨rfl, hbw⟩
          have hall' : n3 = sumI ts * ws.getD i.toNat 0 - ts.getD i.toNat 0 * sumI ws ∧ e3 = 0 := by
            rcases hall with h | h
            · exact absurd h.1 hio
            · exact h.2
          clear hall
          obtain ⟨rfl, rfl⟩ := hall'
          obtain ⟨j, rfl⟩ : ∃ j : Nat, i = j := ⟨i.toNat, by omega⟩
          rw [Int.toNat_natCast]
          have hjk : j < k := by omega
          have hin : (j : Int) < k := by omega
          have hin' : ¬ (k : Int) ≤ j := by omega
          have hok := HG.out j hjk
          clear hio hlt
          obtain ⟨b, o, rfl, hb, c0, -⟩ := (h.below' hbw (Nat.le_refl _)).at_ hjk
          obtain ⟨b', o', rfl, hb', d0, -⟩ := (h'.below' hbw (Nat.le_refl _)).at_ hjk
          have hb2 : b < wr.heap.size := Nat.lt_of_lt_of_le hb hbw.size
          have hb3 : b' < wr.heap.size := Nat.lt_of_lt_of_le hb' hbw.size
          unfold OkAt at hok
          generalize ws.getD j 0 = y at *
          generalize ts.getD j 0 = z at *
          generalize sumI ws = sw at *
          generalize sumI ts = st at *
          have m1 := mul_rng y st 100 (1073741824 * 16) ⟨by have := hok.1.1; omega, hok.1.2⟩ ⟨hsb.2.2.1, by omega⟩
          have m2 := mul_rng sw z 1600 1073741824 ⟨hsb.1, by omega⟩ hok.2
          have pe : (st * y - z * sw == y * st - sw * z) = true := by rw [Int.mul_comm st y, Int.mul_comm z sw]; simp
          go_wp2_with fail
          refine wp_region_near wr.heap.size (by kernel_rfl) (by kernel_rfl) ?_
          repeat (go_big_quiet_step (fail))
          refine wpQuiet_nil ?_
          intro w3 hb4
          go_wp2_with fail
          go_ret
          exact ⟨rfl, hbw.trans (hb4.mono hbw.size)⟩
    · obtain ⟨rfl, rfl⟩ := hli.out.form q0 q1 hnn
      have hne' : ((n : Int) != n') = true := by simp; omega
      go_wp2_with fail
      go_ret
      exact ⟨rfl, hb1⟩
end Go.Proofs.Ytjcbnanajelpjaa
