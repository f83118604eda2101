/- ringlaw4.sameTexts f6 at texts that are the same; the law f3. -/
import Derived.Test.YtogkemdbpmfmmaaDoorExE
namespace Go.Proofs.YtogkemdbpmfmmaaDoor
open Go.RowKit
set_option maxHeartbeats 400000
set_option linter.unusedVariables false
set_option linter.unusedSimpArgs false
set_option maxHeartbeats 2000000 in
set_option maxRecDepth 100000 in
theorem sameTexts_same (A A' : Option Addr) (n c n' c' : Nat) (xs : List ByteArray) (w : World) (B : Nat) (h : RS strC 1 w B A n xs) (h' : RS strC 1 w B A' n' xs) (hB : B ≤ w.heap.size) (hn : n ≤ 9223372036854775807) :
    Calls Tryd.prog 6 #[.slice A n c, .slice A' n' c'] w fun e w' => e = .returned (.bool true) ∧ Below w.heap.size w w' := by
  have hl := h.2
  have hl' := h'.2
  obtain rfl : n' = n := by omega
  clear hl hl'
  go_enter Tryd.func6, Tryd.ntmps6
  go_wp2_with fail
  go_loopw [13] (fun i wr => ∃ j : Nat, j ≤ n' ∧ i = .int .i64 j ∧ Below w.heap.size w wr) (fun i _ => n' - (intOf i).toNat)
  case atStart => exact ⟨0, by omega, rfl, Below.refl _ _⟩
  case round =>
    obtain ⟨j, hj, rfl, hbw⟩ := hrel
    by_cases hjn : j < n'
    · obtain ⟨b, o, rfl, hb, hm, hcs⟩ := RS.at_ (cl := strC) (s := 1) strC_len ByteArray.empty (h.below' hbw hB) hjn
      obtain ⟨b', o', rfl, hb', hm', hcs'⟩ := RS.at_ (cl := strC) (s := 1) strC_len ByteArray.empty (h'.below' hbw hB) hjn
      have x0 := hcs 0 _ rfl
      have x0' := hcs' 0 _ rfl
      clear hcs hcs' hm hm'
      generalize xs.getD j ByteArray.empty = s at *
      rw [Nat.add_zero, Nat.mul_one] at x0 x0'
      have hpt : (s.toList != s.toList) = false := by simp
      have hkn : (j : Int) < n' := by omega
      have hk0 : (0 : Int) ≤ j := by omega
      go_wp2_with fail
      refine wp_region_quiet_lit (by kernel_rfl) (by kernel_rfl) ?_
      repeat (go_big_quiet_step (fail))
      refine wpQuiet_nil ?_
      rintro w4 ⟨kn, rfl⟩
      go_wp2
      go_roundw
      case rel => exact ⟨j + 1, by omega, by go_num, _root_.Go.below_drewN hbw _⟩
      case measure => simp [intOf]; omega
    · obtain rfl : j = n' := by omega
      go_wp2
      go_ret
      exact ⟨rfl, hbw⟩
set_option maxHeartbeats 2000000 in
set_option maxRecDepth 100000 in
theorem law_wordsExpanded (op : ByteArray) (A : Option Addr) (n c : Nat) (kk : Int) (ps : List Pt) (VA : Option Addr) (vn vc : Nat) (vars : List Vr) (k : Int) (w : World) (h : In w w.heap.size op A n ps VA vn vars) (hv : VarOk w) (h0 : -9223372036854775808 ≤ k) (h1 : k ≤ 9223372036854775807) :
    Calls Tryd.prog 3 #[.agg #[.string op, .slice A n c, .int .i64 kk], .slice VA vn vc, .int .i64 k] w fun e w' => e = .returned (.bool true) ∧ Below w.heap.size w w' := by
  have hx0 := Blk.new w #[.string op, .slice A n c, .int .i64 kk] 24
  have hb0 : Below w.heap.size w (w.alloc (.cells #[.string op, .slice A n c, .int .i64 kk] 24)) := (Below.refl _ _).alloc (Nat.le_refl _) _
  obtain ⟨W, hW⟩ : ∃ W, W = w.alloc (.cells #[.string op, .slice A n c, .int .i64 kk] 24) := ⟨_, rfl⟩
  rw [← hW] at hx0 hb0
  have hl1 := hv.lt
  have H0 := h.below hb0 (Nat.le_refl _)
  have hv0 := hv.below hb0 hl1
  have hlt0 := hx0.lt
  obtain ⟨g0, hg0⟩ : ∃ g, w.heap.size = g := ⟨_, rfl⟩
  rw [hg0] at hx0 hb0 hlt0 hl1 H0
  have HX := Lib.hid (fun W' (hb : Below W.heap.size W W') => expand_any op A n c kk ps VA vn vc vars k W' g0 (H0.below hb (Nat.le_of_lt hlt0)) (Nat.le_trans (Nat.le_of_lt hlt0) hb.size) (hv0.below hb (by omega)) h0 h1)
  have HY := Lib.hid (fun W' (hb : Below W.heap.size W W') => fields_any op A n c kk ps VA vn vc vars k W' g0 (H0.below hb (Nat.le_of_lt hlt0)) (Nat.le_trans (Nat.le_of_lt hlt0) hb.size) (hv0.below hb (by omega)) h0 h1)
  generalize expandS (itoaS k) op ps vars = R at *
  obtain ⟨xs, er⟩ := R
  unfold XPost at HX HY
  dsimp only at HX HY
  have hc0 := hx0.cell
  have HBK := Lib.hid hx0
  have HB0 := Lib.hid hb0
  have HW := Lib.hid hW
  have HG0 := Lib.hid hg0
  clear hW hx0 hb0 h hv H0 hv0
  go_enter Tryd.func3, Tryd.ntmps3
  go_wp2_with fail
  rw [← HW.out]
  refine (HX.out W (Below.refl _ _)).mono ?_
  rintro e1 w1 ⟨A1, n1, c1, rfl, hr1, hn1, hb1⟩
  have HR1 := Lib.hid hr1
  have HB1 := Lib.hid hb1
  have hk1 := HBK.out.fr (Fr.of_grow hb1) (fun h => h)
  have z0 := (hk1.cell 0).trans (show _ = some (Value.string op) from rfl)
  have z1 := (hk1.cell 1).trans (show _ = some (Value.slice A n c) from rfl)
  have z2 := (hk1.cell 2).trans (show _ = some (Value.int .i64 kk) from rfl)
  have zl := hk1.lt
  clear hr1 hb1 hk1
  go_wp2_with fail
  refine (HY.out w1 HB1.out).mono ?_
  rintro e2 w2 ⟨A2, n2, c2, rfl, hr2, hn2, hb2⟩
  have HS := Lib.hid (sameTexts_same A1 A2 n1 c1 n2 c2 xs w2 w2.heap.size (HR1.out.below' hb2 (Nat.le_refl _) |>.more hb2.size) hr2 (Nat.le_refl _) hn1)
  have HB2 := Lib.hid (HB0.out.trans ((HB1.out.trans (hb2.mono HB1.out.size)).mono (Nat.le_of_lt hlt0)))
  clear hr2 hb2
  go_wp2_with fail
  refine HS.out.mono ?_
  rintro e3 w3 ⟨rfl, hb3⟩
  have HB3 := Lib.hid (HB2.out.trans (hb3.mono (by have := HB2.out.size; omega)))
  clear hb3
  go_wp2
  go_ret
  exact ⟨rfl, by rw [HG0.out]; exact HB3.out⟩
end Go.Proofs.YtogkemdbpmfmmaaDoor
