/- ringlaw4.sameTexts f6 at texts that are the same; the law f3. -/
import Derived.Test.YtopkcanfiefmaaaDoorRyC
namespace Go.Proofs.YtopkcanfiefmaaaDoor
open Go.RowKit
set_option maxHeartbeats 400000
set_option linter.unusedVariables false
set_option linter.unusedSimpArgs false
set_option maxHeartbeats 2000000 in
set_option maxRecDepth 100000 in
theorem sameTexts_same (A A' : Option Addr) (n c n' c' : Nat) (xs : List ByteArray) (w : World) (B : Nat) (h : RS strC 1 w B A n xs) (h' : RS strC 1 w B A' n' xs) (hB : B ≤ w.heap.size) (hn : n ≤ 9223372036854775807) :
    Calls Tryd.prog 6 #[.slice A n c, .slice A' n' c'] w fun e w' => e = .returned (.bool true) ∧ Below w.heap.size w w' := by
  have hl := h.2
  have hl' := h'.2
  obtain rfl : n' = n := by omega
  clear hl hl'
  go_enter Tryd.func6, Tryd.ntmps6
  go_wp2_with fail
  go_loopw [13] (fun i wr => ∃ j : Nat, j ≤ n' ∧ i = .int .i64 j ∧ Below w.heap.size w wr) (fun i _ => n' - (intOf i).toNat)
  case atStart => exact ⟨0, by omega, rfl, Below.refl _ _⟩
  case round =>
    obtain ⟨j, hj, rfl, hbw⟩ := hrel
    by_cases hjn : j < n'
    · obtain ⟨b, o, rfl, hb, hm, hcs⟩ := RS.at_ (cl := strC) (s := 1) strC_len ByteArray.empty (h.below' hbw hB) hjn
      obtain ⟨b', o', rfl, hb', hm', hcs'⟩ := RS.at_ (cl := strC) (s := 1) strC_len ByteArray.empty (h'.below' hbw hB) hjn
      have x0 := hcs 0 _ rfl
      have x0' := hcs' 0 _ rfl
      clear hcs hcs' hm hm'
      generalize xs.getD j ByteArray.empty = s at *
      rw [Nat.add_zero, Nat.mul_one] at x0 x0'
      have hpt : (s.toList != s.toList) = false := by simp
      have hkn : (j : Int) < n' := by omega
      have hk0 : (0 : Int) ≤ j := by omega
      go_wp2_with fail
      refine wp_region_quiet_lit (by kernel_rfl) (by kernel_rfl) ?_
      repeat (go_big_quiet_step (fail))
      refine wpQuiet_nil ?_
      rintro w4 ⟨kn, rfl⟩
      go_wp2
      go_roundw
      case rel => exact ⟨j + 1, by omega, by go_num, _root_.Go.below_drewN hbw _⟩
      case measure => simp [intOf]; omega
    · obtain rfl : j = n' := by omega
      go_wp2
      go_ret
      exact ⟨rfl, hbw⟩
set_option maxHeartbeats 4000000 in
set_option maxRecDepth 100000 in
theorem law_shellReady (WA : Option Addr) (wn wc : Nat) (ws : List Tk) (RA : Option Addr) (rn rc : Nat) (rs : List Rd) (VA : Option Addr) (vn vc : Nat) (vars : List Vr) (k : Int) (w : World) (h : RIn w w.heap.size WA wn ws RA rn rs VA vn vars) (hv : VarOk w) (h0 : -9223372036854775808 ≤ k) (h1 : k ≤ 9223372036854775807) :
    Calls Tryd.prog 3 #[.agg #[.slice WA wn wc, .slice RA rn rc], .slice VA vn vc, .int .i64 k] w fun e w' => e = .returned (.bool true) ∧ Below w.heap.size w w' := by
  have hx0 := Blk.new w #[.slice WA wn wc, .slice RA rn rc] 25
  have hb0 : Below w.heap.size w (w.alloc (.cells #[.slice WA wn wc, .slice RA rn rc] 25)) := (Below.refl _ _).alloc (Nat.le_refl _) _
  obtain ⟨W, hW⟩ : ∃ W, W = w.alloc (.cells #[.slice WA wn wc, .slice RA rn rc] 25) := ⟨_, rfl⟩
  rw [← hW] at hx0 hb0
  have hl1 := hv.lt
  have H0 := h.below hb0 (Nat.le_refl _)
  have hv0 := hv.below hb0 hl1
  have hlt0 := hx0.lt
  obtain ⟨g0, hg0⟩ : ∃ g, w.heap.size = g := ⟨_, rfl⟩
  rw [hg0] at hx0 hb0 hlt0 hl1 H0
  have HX := Lib.hid (fun W' (hb : Below W.heap.size W W') => ready_any WA wn wc ws RA rn rc rs VA vn vc vars k W' g0 (H0.below hb (Nat.le_of_lt hlt0)) (Nat.le_trans (Nat.le_of_lt hlt0) hb.size) (hv0.below hb (by omega)) h0 h1)
  have HY := Lib.hid (fun W' (hb : Below W.heap.size W W') => fieldsReady_any WA wn wc ws RA rn rc rs VA vn vc vars k W' g0 (H0.below hb (Nat.le_of_lt hlt0)) (Nat.le_trans (Nat.le_of_lt hlt0) hb.size) (hv0.below hb (by omega)) h0 h1)
  generalize readyW (itoaS k) vars Sm.zero ws rs = R at *
  obtain ⟨⟨args, inp, out, more⟩, er⟩ := R
  unfold RyPost at HX HY
  dsimp only at HX HY
  have hc0 := hx0.cell
  have HBK := Lib.hid hx0
  have HB0 := Lib.hid hb0
  have HW := Lib.hid hW
  have HG0 := Lib.hid hg0
  clear hW hx0 hb0 h hv H0 hv0
  go_enter Tryd.func3, Tryd.ntmps3
  go_wp2_with fail
  rw [← HW.out]
  refine (HX.out W (Below.refl _ _)).mono ?_
  rintro e1 w1 ⟨A1, n1, c1, rfl, hr1, hn1, hb1⟩
  have hbx := Blk.new w1 #[.slice A1 n1 c1, .string inp, .string out, .bool more] 29
  have hb2 : Below w1.heap.size w1 (w1.alloc (.cells #[.slice A1 n1 c1, .string inp, .string out, .bool more] 29)) := (Below.refl _ _).alloc (Nat.le_refl _) _
  obtain ⟨W2, hW2⟩ : ∃ W, W = w1.alloc (.cells #[.slice A1 n1 c1, .string inp, .string out, .bool more] 29) := ⟨_, rfl⟩
  rw [← hW2] at hbx hb2
  obtain ⟨gx, hgx⟩ : ∃ g, w1.heap.size = g := ⟨_, rfl⟩
  rw [hgx] at hbx hb2 hr1
  have HB2 := Lib.hid (hb1.trans (hb2.mono (by rw [← hgx]; exact hb1.size)))
  have HR1 := Lib.hid (hr1.below' hb2 (Nat.le_refl _))
  have HBX := Lib.hid hbx
  have HW2 := Lib.hid hW2
  have hk1 := HBK.out.fr (Fr.of_grow hb1) (fun h => h)
  have zc := hk1.cell
  have zl : g0 < gx := by have := hk1.lt; omega
  have zf := hk1.free
  have zx := hbx.lt
  clear hr1 hb1 hk1 hb2 hbx hW2 hc0
  go_wp2_with fail
  rw [← HW2.out]
  clear HW2
  refine (HY.out W2 HB2.out).mono ?_
  rintro e2 w2 ⟨A2, n2, c2, rfl, hr2, hn2, hb3⟩
  have hby := Blk.new w2 #[.slice A2 n2 c2, .string inp, .string out, .bool more] 29
  have hb4 : Below w2.heap.size w2 (w2.alloc (.cells #[.slice A2 n2 c2, .string inp, .string out, .bool more] 29)) := (Below.refl _ _).alloc (Nat.le_refl _) _
  obtain ⟨W4, hW4⟩ : ∃ W, W = w2.alloc (.cells #[.slice A2 n2 c2, .string inp, .string out, .bool more] 29) := ⟨_, rfl⟩
  rw [← hW4] at hby hb4
  have hbx4 := (HBX.out.fr (Fr.of_grow hb3) (fun h => h)).fr (Fr.of_grow hb4) (fun h => h)
  have HS := Lib.hid (sameTexts_same A1 A2 n1 c1 n2 c2 args W4 W4.heap.size (((HR1.out.below' hb3 (by omega)).below' hb4 (by have := hb3.size; omega)).more (by have := hb3.size; have := hb4.size; omega)) ((hr2.below' hb4 (Nat.le_refl _)).more hb4.size) (Nat.le_refl _) hn1)
  have HB4 := Lib.hid (HB0.out.trans ((HB2.out.trans ((hb3.trans (hb4.mono hb3.size)).mono HB2.out.size)).mono (Nat.le_of_lt hlt0)))
  obtain ⟨gy, hgy⟩ : ∃ g, w2.heap.size = g := ⟨_, rfl⟩
  rw [hgy] at hby
  have HBY := Lib.hid hby
  have HBX4 := Lib.hid hbx4
  have HW4 := Lib.hid hW4
  have hbx3 := HBX.out.fr (Fr.of_grow hb3) (fun h => h)
  have xc := hbx3.cell
  have xl : gx < gy := by have := hbx3.lt; omega
  clear hr2 hb3 hby hb4 hW4 hbx4 zc zl zf zx hbx3
  go_wp2_with fail
  rw [← HW4.out]
  clear HW4
  refine HS.out.mono ?_
  rintro e3 w3 ⟨rfl, hb5⟩
  have HB5 := Lib.hid (HB4.out.trans (hb5.mono (by have := HB4.out.size; omega)))
  have kx := HBX4.out.fr (Fr.of_grow hb5) (fun h => h)
  have ky := HBY.out.fr (Fr.of_grow hb5) (fun h => h)
  have xc3 := kx.cell
  have xl3 := kx.lt
  have yc3 := ky.cell
  have yl3 := ky.lt
  have hi1 : (inp.toList == inp.toList) = true := by simp
  have hi2 : (out.toList == out.toList) = true := by simp
  clear hb5 kx ky xc xl
  go_wp2
  go_ret
  exact ⟨rfl, by rw [HG0.out]; exact HB5.out⟩
end Go.Proofs.YtopkcanfiefmaaaDoor
