/- ringref4.WordPrint (printed by mkPtD.py). -/
import Derived.Test.YtdchopaokjpmdaaDoorPtC
namespace Go.Proofs.YtdchopaokjpmdaaDoor
open Go.RowKit
set_option maxHeartbeats 400000
set_option linter.unusedVariables false
set_option linter.unusedSimpArgs false
set_option maxHeartbeats 4000000 in
set_option maxRecDepth 100000 in
theorem wordPrint_any (m : Tm) (w : World) (B : Nat) (h : m.Ok w B) (hB : B ≤ w.heap.size) : Calls Tryd.prog 7 #[.agg m.vals] w (SaysB (.string (bs (printL m))) w) := by
  obtain ⟨op, A, n, c, ps, kk⟩ := m
  have hP : Hid (printL ⟨op, A, n, c, ps, kk⟩ = if op.size ≠ 0 then op.data.toList else prL ps) := Lib.hid rfl
  obtain ⟨L, hL⟩ : ∃ L, printL ⟨op, A, n, c, ps, kk⟩ = L := ⟨_, rfl⟩
  rw [hL] at hP ⊢
  clear hL
  unfold Tm.vals
  dsimp only
  have hx0 := Blk.new w #[.string op, .slice A n c, .int .i64 kk] 24
  have hb0 : Below w.heap.size w (w.alloc (.cells #[.string op, .slice A n c, .int .i64 kk] 24)) := (Below.refl _ _).alloc (Nat.le_refl _) _
  have h0 := h.below' hb0 hB
  obtain ⟨hrs, hfew, hsm, hops⟩ := h0
  dsimp only at hrs hfew hsm hops
  have hc0 := hx0.cell
  have hlt0 := hx0.lt
  have hlen := hrs.2
  obtain ⟨W, hW⟩ : ∃ W, W = w.alloc (.cells #[.string op, .slice A n c, .int .i64 kk] 24) := ⟨_, rfl⟩
  rw [← hW] at hx0 hb0 hrs hc0 hlt0
  obtain ⟨g0, hg0⟩ : ∃ g, w.heap.size = g := ⟨_, rfl⟩
  have HG0 := Lib.hid hg0
  have hb1 : W.heap.size = g0 + 1 := by rw [hW, ← hg0]; simp
  rw [hg0] at hb0 hx0 hc0 hlt0
  have hBg : B ≤ g0 := by omega
  rw [hb1] at hlt0
  have HB0 := Lib.hid hb0
  have HW := Lib.hid hW
  clear hW hb0 hx0 h
  go_enter Tryd.func7, Tryd.ntmps7
  go_wp2_with fail
  rw [← HW.out]
  clear HW
  have HB1 := Lib.hid hb1
  obtain ⟨b, hb⟩ : ∃ b, g0 + 1 = b := ⟨_, rfl⟩
  rw [hb] at hlt0 HB1
  clear hg0 hb1 hb
  by_cases ho : op.size = 0
  rotate_left
  · have e := hP.out
    rw [if_pos ho] at e
    have E := Lib.hid e
    clear e hP
    have hne := bytes_some ho
    go_loopw [3, 11] (fun v3 i wr => ∃ j : Nat, j ≤ n ∧ v3 = .string op ∧ i = .int .i64 j ∧ Below b W wr) (fun _ i _ => n - (intOf i).toNat)
    case atStart => exact ⟨0, Nat.zero_le _, rfl, rfl, Below.refl _ _⟩
    case round =>
      obtain ⟨j, hj, rfl, rfl, hbw⟩ := hrel
      have hsw := hbw.size
      rw [HB1.out] at hsw
      by_cases hjn : j < n
      rotate_left
      · obtain rfl : j = n := by omega
        have hfin := Lib.hid (HB0.out.trans (hbw.mono (by omega)))
        go_wp2
        go_ret
        exact ⟨by rw [E.out]; rfl, by rw [HG0.out]; exact hfin.out⟩
      obtain ⟨bb, o, rfl, hbb, hm, hcs⟩ := RS.at_ (cl := Pt.cells) (s := 3) (fun _ => rfl) Pt.zero hrs hjn
      have x0 := (hbw.cell (p := ⟨bb, o + j * 3 + 0, none⟩) (show bb < b by omega)).trans (hcs 0 _ rfl)
      have x1 := (hbw.cell (p := ⟨bb, o + j * 3 + 1, none⟩) (show bb < b by omega)).trans (hcs 1 _ rfl)
      have x2 := (hbw.cell (p := ⟨bb, o + j * 3 + 2, none⟩) (show bb < b by omega)).trans (hcs 2 _ rfl)
      clear hcs hm
      generalize ps.getD j Pt.zero = p at *
      obtain ⟨pt, pv, pq⟩ := p
      dsimp only at x0 x1 x2
      rw [Nat.add_zero] at x0
      have hkn : (j : Int) < n := by omega
      have hk0 : (0 : Int) ≤ j := by omega
      have hc1 := (hbw.cell (p := ⟨g0, 0, none⟩) (show g0 < b by omega)).trans ((hc0 0).trans (show _ = some (.string op) from rfl))
      have hlg : g0 < wr.heap.size := by omega
      have hB5 : Below wr.heap.size wr (wr.alloc (.cells #[.string pt, .bool pv, .bool pq] 34)) := (Below.refl _ _).alloc (Nat.le_refl _) _
      have hB6 := Lib.hid (hbw.trans (hB5.mono hsw))
      go_wp2
      go_roundw
      case rel => exact ⟨j + 1, by omega, rfl, by go_num, hB6.out⟩
      case measure => simp [intOf]; omega
  obtain rfl : op = ByteArray.empty := ByteArray.ext (Array.eq_empty_of_size_eq_zero ho)
  have e := hP.out
  rw [if_neg (fun h => h ho)] at e
  have E := Lib.hid e
  clear e hP
  have hne := bytes_none ho
  go_loopw [3, 11] (fun v3 i wr => ∃ (j : Nat) (T : ByteArray), j ≤ n ∧ v3 = .string T ∧ i = .int .i64 j ∧ Hid (T = bs (prL (ps.take j))) ∧ Below b W wr) (fun _ i _ => n - (intOf i).toNat)
  case atStart => exact ⟨0, _, Nat.zero_le _, rfl, rfl, Lib.hid rfl, Below.refl _ _⟩
  case round =>
    obtain ⟨j, T, hj, rfl, rfl, hT, hbw⟩ := hrel
    have hsw := hbw.size
    rw [HB1.out] at hsw
    by_cases hjn : j < n
    rotate_left
    · obtain rfl : j = n := by omega
      have hfin := Lib.hid (HB0.out.trans (hbw.mono (by omega)))
      have hTT := Lib.hid (hT.out.trans (by rw [List.take_of_length_le (by omega), ← E.out]))
      go_wp2
      go_ret
      exact ⟨by rw [← hTT.out]; rfl, by rw [HG0.out]; exact hfin.out⟩
    obtain ⟨bb, o, rfl, hbb, hm, hcs⟩ := RS.at_ (cl := Pt.cells) (s := 3) (fun _ => rfl) Pt.zero hrs hjn
    have hjl : j < ps.length := by omega
    have x0 := (hbw.cell (p := ⟨bb, o + j * 3 + 0, none⟩) (show bb < b by omega)).trans (hcs 0 _ rfl)
    have x1 := (hbw.cell (p := ⟨bb, o + j * 3 + 1, none⟩) (show bb < b by omega)).trans (hcs 1 _ rfl)
    have x2 := (hbw.cell (p := ⟨bb, o + j * 3 + 2, none⟩) (show bb < b by omega)).trans (hcs 2 _ rfl)
    have hpt := hsm _ hm
    have hgj : ps.getD j Pt.zero = ps[j] := by simp [List.getD, List.getElem?_eq_getElem hjl]
    have hst : ps.take (j + 1) = ps.take j ++ [ps.getD j Pt.zero] := by rw [List.take_succ_eq_append_getElem hjl, hgj]
    have hpl := prL_len (ps.take j) (fun p hp => hsm p (List.mem_of_mem_take hp))
    rw [List.length_take] at hpl
    have hTs : T.size ≤ 5000000000000 := by
      rw [hT.out, bs_size]
      have := Nat.min_le_left j ps.length
      have : min j ps.length * 4194310 ≤ 1048576 * 4194310 := Nat.mul_le_mul_right _ (by omega)
      omega
    clear hcs hm hgj hpl
    generalize ps.getD j Pt.zero = p at *
    have HST := Lib.hid hst
    clear hst
    obtain ⟨pt, pv, pq⟩ := p
    dsimp only at x0 x1 x2 hpt
    rw [Nat.add_zero] at x0
    have hkn : (j : Int) < n := by omega
    have hk0 : (0 : Int) ≤ j := by omega
    have hc1 := (hbw.cell (p := ⟨g0, 0, none⟩) (show g0 < b by omega)).trans ((hc0 0).trans (show _ = some (.string ByteArray.empty) from rfl))
    have hlg : g0 < wr.heap.size := by omega
    have hB5 : Below wr.heap.size wr (wr.alloc (.cells #[.string pt, .bool pv, .bool pq] 34)) := (Below.refl _ _).alloc (Nat.le_refl _) _
    cases pv with
    | true =>
      cases pq with
      | true =>
        skip
        have e1 : (⟨#[34, 36]⟩ ++ pt ++ ⟨#[34]⟩).data.toList = prB ⟨pt, true, true⟩ := show (⟨#[34, 36]⟩ ++ pt ++ ⟨#[34]⟩ : ByteArray).data.toList = [34, 36] ++ pt.data.toList ++ [34] from by simp [ByteArray.data_append]
        have hsz : (⟨#[34, 36]⟩ ++ pt ++ ⟨#[34]⟩).size ≤ 4194310 := by rw [← data_len, e1]; exact prB_len _ hpt
        have hX : Hid (T ++ (⟨#[34, 36]⟩ ++ pt ++ ⟨#[34]⟩) = bs (prL (ps.take (j + 1)))) := Lib.hid (by rw [HST.out, prL_snoc, ← e1, hT.out]; exact bs_app' _ _)
        have m2 : ¬ 9223372036854775807 < 2 + pt.size := by omega
        have m3 : ¬ 9223372036854775807 < 2 + pt.size + 1 := by omega
        have m4 : ¬ 9223372036854775807 < 1 + pt.size := by omega
        have m5 : ¬ 9223372036854775807 < T.size + (⟨#[34, 36]⟩ ++ pt ++ ⟨#[34]⟩).size := by omega
        have m6 : ¬ 9223372036854775807 < T.size + (2 + pt.size + 1) := by omega
        have m7 : ¬ 9223372036854775807 < T.size + (1 + pt.size) := by omega
        clear e1 hsm hTs
        have hB6 := Lib.hid (hbw.trans (hB5.mono hsw))
        go_wp2
        go_roundw
        case rel => exact ⟨j + 1, _, by omega, rfl, by go_num, hX, hB6.out⟩
        case measure => simp [intOf]; omega
      | false =>
        skip
        have e1 : (⟨#[36]⟩ ++ pt).data.toList = prB ⟨pt, true, false⟩ := show (⟨#[36]⟩ ++ pt : ByteArray).data.toList = [36] ++ pt.data.toList from by simp [ByteArray.data_append]
        have hsz : (⟨#[36]⟩ ++ pt).size ≤ 4194310 := by rw [← data_len, e1]; exact prB_len _ hpt
        have hX : Hid (T ++ (⟨#[36]⟩ ++ pt) = bs (prL (ps.take (j + 1)))) := Lib.hid (by rw [HST.out, prL_snoc, ← e1, hT.out]; exact bs_app' _ _)
        have m2 : ¬ 9223372036854775807 < 2 + pt.size := by omega
        have m3 : ¬ 9223372036854775807 < 2 + pt.size + 1 := by omega
        have m4 : ¬ 9223372036854775807 < 1 + pt.size := by omega
        have m5 : ¬ 9223372036854775807 < T.size + (⟨#[36]⟩ ++ pt).size := by omega
        have m6 : ¬ 9223372036854775807 < T.size + (2 + pt.size + 1) := by omega
        have m7 : ¬ 9223372036854775807 < T.size + (1 + pt.size) := by omega
        clear e1 hsm hTs
        have hB6 := Lib.hid (hbw.trans (hB5.mono hsw))
        go_wp2
        go_roundw
        case rel => exact ⟨j + 1, _, by omega, rfl, by go_num, hX, hB6.out⟩
        case measure => simp [intOf]; omega
    | false =>
      cases pq with
      | true =>
        have HQ := Lib.hid (fun W => wordQuote_any pt W hpt)
        unfold SaysB at HQ
        have e1 : (bs (quoteL pt.data.toList)).data.toList = prB ⟨pt, false, true⟩ := rfl
        have hsz : (bs (quoteL pt.data.toList)).size ≤ 4194310 := by rw [← data_len, e1]; exact prB_len _ hpt
        have hX : Hid (T ++ (bs (quoteL pt.data.toList)) = bs (prL (ps.take (j + 1)))) := Lib.hid (by rw [HST.out, prL_snoc, ← e1, hT.out]; exact bs_app' _ _)
        have m2 : ¬ 9223372036854775807 < 2 + pt.size := by omega
        have m3 : ¬ 9223372036854775807 < 2 + pt.size + 1 := by omega
        have m4 : ¬ 9223372036854775807 < 1 + pt.size := by omega
        have m5 : ¬ 9223372036854775807 < T.size + (bs (quoteL pt.data.toList)).size := by omega
        have m6 : ¬ 9223372036854775807 < T.size + (2 + pt.size + 1) := by omega
        have m7 : ¬ 9223372036854775807 < T.size + (1 + pt.size) := by omega
        clear e1 hsm hTs
        go_wp2_with fail
        refine (HQ.out (wr.alloc (.cells #[.string pt, .bool false, .bool true] 34))).mono ?_
        rintro e w6 ⟨rfl, hb6⟩
        have hB6 := Lib.hid (hbw.trans ((hB5.trans (hb6.mono hB5.size)).mono hsw))
        generalize bs (quoteL pt.data.toList) = Z at *
        clear hb6
        go_wp2
        go_roundw
        case rel => exact ⟨j + 1, _, by omega, rfl, by go_num, hX, hB6.out⟩
        case measure => simp [intOf]; omega
      | false =>
        skip
        have e1 : pt.data.toList = prB ⟨pt, false, false⟩ := rfl
        have hsz : pt.size ≤ 4194310 := by rw [← data_len, e1]; exact prB_len _ hpt
        have hX : Hid (T ++ pt = bs (prL (ps.take (j + 1)))) := Lib.hid (by rw [HST.out, prL_snoc, ← e1, hT.out]; exact bs_app' _ _)
        have m2 : ¬ 9223372036854775807 < 2 + pt.size := by omega
        have m3 : ¬ 9223372036854775807 < 2 + pt.size + 1 := by omega
        have m4 : ¬ 9223372036854775807 < 1 + pt.size := by omega
        have m5 : ¬ 9223372036854775807 < T.size + pt.size := by omega
        have m6 : ¬ 9223372036854775807 < T.size + (2 + pt.size + 1) := by omega
        have m7 : ¬ 9223372036854775807 < T.size + (1 + pt.size) := by omega
        clear e1 hsm hTs
        have hB6 := Lib.hid (hbw.trans (hB5.mono hsw))
        go_wp2
        go_roundw
        case rel => exact ⟨j + 1, _, by omega, rfl, by go_num, hX, hB6.out⟩
        case measure => simp [intOf]; omega
end Go.Proofs.YtdchopaokjpmdaaDoor
