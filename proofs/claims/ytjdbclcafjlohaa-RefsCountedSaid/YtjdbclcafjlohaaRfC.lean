/- The law ringlaw4.RefsCounted. -/
import Derived.Test.YtjdbclcafjlohaaRfB
namespace Go.Proofs.Ytjdbclcafjlohaa
open Go.RowKit
set_option maxHeartbeats 400000
set_option linter.unusedVariables false
set_option linter.unusedSimpArgs false
theorem cnt_cells (l : List (Int × Int)) : ∀ (i j : Nat) (p : Int × Int), l[i]? = some p → j < 2 → (cntCells l)[i * 2 + j]? = [Value.int .i64 p.1, Value.int .i64 p.2][j]? := by
  unfold cntCells
  induction l with
  | nil => intro i j r h; simp at h
  | cons a l ih =>
    intro i j p h hj
    rw [List.flatMap_cons]
    cases i with
    | zero =>
      simp only [List.getElem?_cons_zero, Option.some.injEq] at h
      subst h
      rw [List.getElem?_append_left (by simp; omega)]
      simp
    | succ i =>
      simp only [List.getElem?_cons_succ] at h
      rw [List.getElem?_append_right (by simp; omega)]
      have := ih i j p h hj
      rw [← this]
      congr 1
      simp; omega
theorem cnt_at {w : World} {B n i : Nat} {A : Option Addr} {l : List (Int × Int)} (h : Reads w B 2 A n (cntCells l)) (hi : i < n) : ∃ b o, A = some ⟨b, o, none⟩ ∧ b < B ∧ w.cell? ⟨b, o + i * 2, none⟩ = some (.int .i64 (l.getD i (0, 0)).1) ∧
    w.cell? ⟨b, o + i * 2 + 1, none⟩ = some (.int .i64 (l.getD i (0, 0)).2) := by
  obtain ⟨b, o, e, hb, hc⟩ := h.2 (by omega)
  have hl : i < l.length := by have := h.1; rw [cntCells_len] at this; omega
  have e1 : l[i]? = some (l.getD i (0, 0)) := by simp [List.getD, List.getElem?_eq_getElem hl]
  refine ⟨b, o, e, hb, ?_, ?_⟩
  · exact hc (i * 2 + 0) _ ((cnt_cells l i 0 _ e1 (by omega)).trans rfl)
  · rw [Nat.add_assoc]; exact hc (i * 2 + 1) _ ((cnt_cells l i 1 _ e1 (by omega)).trans rfl)
set_option maxHeartbeats 4000000 in
set_option maxRecDepth 100000 in
theorem law_refsCounted (A : Option Addr) (n c : Nat) (rs : List Rc) (w : World) (h : RR w w.heap.size A n rs) (hn : n ≤ 9223372036854775807) :
    Calls Try.prog 5 #[.slice A n c] w fun e w' => e = .returned (.bool true) ∧ Below w.heap.size w w' := by
  have HLe := Lib.hid (show (if traceErr rs = 0 then cnt rs 64 else []).length ≤ 64 by split; exact cnt_len _ _; simp)
  go_enter Try.func5, Try.ntmps5
  go_wp2_with fail
  refine (counts_any A n c rs _ w.heap.size h (Nat.le_refl _) hn).mono ?_
  rintro e w1 ⟨A1, m1, c1, rfl, hr1, hb1⟩
  go_wp2_with fail
  refine (refCounts_any A n c rs _ w.heap.size (h.below' hb1 (Nat.le_refl _)) hb1.size hn).mono ?_
  rintro e w2 ⟨A2, m2, c2, rfl, hr2, hb2⟩
  generalize (if traceErr rs = 0 then cnt rs 64 else []) = ys at *
  obtain rfl : m1 = m2 := by have e1 := hr1.1; have e2 := hr2.1; omega
  have hm : m1 ≤ 64 := by have e1 := hr1.1; rw [cntCells_len] at e1; have := HLe.out; omega
  have hr1' := (hr1.below' hb2 (Nat.le_refl _)).more hb2.size
  have hbw2 : Below w.heap.size w w2 := hb1.trans (hb2.mono hb1.size)
  clear hr1
  go_wp2
  go_loopw [30] (fun i wr => ∃ k : Nat, k ≤ m1 ∧ i = .int .i64 k ∧ Below w2.heap.size w2 wr) (fun i _ => m1 - (intOf i).toNat)
  case atStart => exact ⟨0, by omega, rfl, Below.refl _ _⟩
  case round =>
    obtain ⟨k, hk, rfl, hbw⟩ := hrel
    by_cases hlt : k < m1
    · obtain ⟨b, o, rfl, hb, c0, c1⟩ := cnt_at (hr1'.below' hbw (Nat.le_refl _)) hlt
      obtain ⟨b', o', rfl, hb', d0, d1⟩ := cnt_at (hr2.below' hbw (Nat.le_refl _)) hlt
      generalize ys.getD k (0, 0) = p at *
      have hb1 : b < wr.heap.size := Nat.lt_of_lt_of_le hb hbw.size
      have hb2 : b' < wr.heap.size := Nat.lt_of_lt_of_le hb' hbw.size
      have hkn : (k : Int) < m1 := by omega
      go_wp2_with fail
      refine wp_region_near wr.heap.size (by kernel_rfl) (by kernel_rfl) ?_
      repeat (go_big_quiet_step (fail))
      refine wpQuiet_nil ?_
      intro w3 hb3
      go_wp2
      go_roundw
      case rel => exact ⟨k + 1, by omega, by go_num, hbw.trans (hb3.mono hbw.size)⟩
      case measure => simp [intOf]; omega
    · go_wp2
      go_ret
      exact ⟨rfl, hbw2.trans (hbw.mono hbw2.size)⟩
end Go.Proofs.Ytjdbclcafjlohaa
