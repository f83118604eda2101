/- Contract of vtime.Lag. -/
import Derived.Test.YtjcbnanajelpjaaVtA
namespace Go.Proofs.Ytjcbnanajelpjaa
open Go.RowKit
set_option maxHeartbeats 400000
set_option linter.unusedVariables false
set_option linter.unusedSimpArgs false
def TwoB (a b : Int) (w : World) (e : Ending) (w' : World) : Prop := e = .returned (.tuple #[.int .i64 a, .int .i64 b]) ∧ Below w.heap.size w w'
def OkAt (ws ts : List Int) (k : Nat) : Prop := WOk (ws.getD k 0) ∧ TOk (ts.getD k 0)
def sumI : List Int → Int
  | [] => 0
  | x :: xs => x + sumI xs
theorem sumI_append (xs ys : List Int) : sumI (xs ++ ys) = sumI xs + sumI ys := by
  induction xs with
  | nil => simp [sumI]
  | cons a xs ih => simp only [List.cons_append, sumI, ih]; omega
theorem sumI_take (xs : List Int) (k : Nat) (h : k < xs.length) : sumI (xs.take (k + 1)) = sumI (xs.take k) + xs.getD k 0 := by
  rw [List.take_succ_eq_append_getElem h, sumI_append]
  simp [sumI, List.getD, List.getElem?_eq_getElem h]
theorem sum_bound (ws ts : List Int) (k : Nat) (h : ∀ j, j < k → OkAt ws ts j) (hw : k ≤ ws.length) (ht : k ≤ ts.length) : 0 ≤ sumI (ws.take k) ∧ sumI (ws.take k) ≤ 100 * k ∧ 0 ≤ sumI (ts.take k) ∧ sumI (ts.take k) ≤ 1073741824 * k := by
  induction k with
  | zero => simp [sumI]
  | succ k ih =>
    have := ih (fun j hj => h j (by omega)) (by omega) (by omega)
    obtain ⟨⟨a, b⟩, c, d⟩ := h k (by omega)
    rw [sumI_take ws k (by omega), sumI_take ts k (by omega)]
    omega
theorem mul_rng (a b A B : Int) (ha : 0 ≤ a ∧ a ≤ A) (hb : 0 ≤ b ∧ b ≤ B) : 0 ≤ a * b ∧ a * b ≤ A * B := by
  refine ⟨Int.mul_nonneg ha.1 hb.1, ?_⟩
  exact Int.mul_le_mul ha.2 hb.2 hb.1 (by omega)
section
variable (A A' : Option Addr) (n c n' c' : Nat) (ws ts : List Int) (i : Int) (w : World) (h : RI .i64 w w.heap.size A n ws) (h' : RI .i64 w w.heap.size A' n' ts) (hn : n ≤ 9223372036854775807) (hn' : n' ≤ 9223372036854775807)
theorem lag_large (hl : 16 < n ∨ 16 < n') : Calls Try.prog 18 #[.slice A n c, .slice A' n' c', .int .i64 i] w (TwoB 0 2 w) := by
  by_cases h0 : 16 < n
  · clear hl
    go_enter Try.func18, Try.ntmps18
    go_wp2
    go_ret2
    exact ⟨rfl, Below.refl _ _⟩
  · have h1 : 16 < n' := by omega
    clear hl
    go_enter Try.func18, Try.ntmps18
    go_wp2
    go_ret2
    exact ⟨rfl, Below.refl _ _⟩
theorem lag_form (h0 : ¬ 16 < n) (h1 : ¬ 16 < n') (hne : n ≠ n') : Calls Try.prog 18 #[.slice A n c, .slice A' n' c', .int .i64 i] w (TwoB 0 3 w) := by
  have hne' : ((n : Int) != n') = true := by simp; omega
  go_enter Try.func18, Try.ntmps18
  go_wp2
  go_ret2
  exact ⟨rfl, Below.refl _ _⟩
end
theorem good_next {p : Nat → Prop} {k : Nat} (h : ∀ j, j < k → p j) (hk : p k) : ∀ j, j < k + 1 → p j := fun j hj => by
  rcases Nat.lt_or_ge j k with hjk | hjk
  · exact h j hjk
  · obtain rfl : j = k := by omega
    exact hk
def LagRel (ws ts : List Int) (k : Nat) (s8 s9 : Value) : Prop := (∀ j, j < k → OkAt ws ts j) ∧ s8 = .int .i64 (sumI (ts.take k)) ∧ s9 = .int .i64 (sumI (ws.take k))
/-- What Lag tells of two lists of one length. -/
def LagTells (ws ts : List Int) (n : Nat) (i a b : Int) : Prop :=
  (∃ k, k < n ∧ ¬ OkAt ws ts k ∧ a = 0 ∧ b = 1) ∨ ((∀ k, k < n → OkAt ws ts k) ∧ ((i < 0 ∨ (n : Int) ≤ i) ∧ a = 0 ∧ b = 4 ∨ (0 ≤ i ∧ i < n) ∧ a = sumI ts * ws.getD i.toNat 0 - ts.getD i.toNat 0 * sumI ws ∧ b = 0))
theorem LagTells.bad {ws ts : List Int} {n k : Nat} {i : Int} (hk : k < n) (h : ¬ (WOk (ws.getD k 0) ∧ TOk (ts.getD k 0))) : LagTells ws ts n i 0 1 := .inl ⟨k, hk, h, rfl, rfl⟩
theorem LagTells.fin {ws ts : List Int} {k j : Nat} (hg : ∀ j, j < k → OkAt ws ts j) (hj : (0 : Int) ≤ j ∧ (j : Int) < k) : LagTells ws ts k j (sumI ts * ws.getD j 0 - ts.getD j 0 * sumI ws) 0 :=
  .inr ⟨hg, .inr ⟨hj, by rw [Int.toNat_natCast], rfl⟩⟩
def LagPost (ws ts : List Int) (n : Nat) (i : Int) (w : World) (e : Ending) (w' : World) : Prop := ∃ a b, e = .returned (.tuple #[.int .i64 a, .int .i64 b]) ∧ LagTells ws ts n i a b ∧ Below w.heap.size w w'
set_option maxHeartbeats 4000000 in
set_option maxRecDepth 100000 in
theorem lag_same (A A' : Option Addr) (n c c' : Nat) (ws ts : List Int) (i : Int) (w : World) (h : RI .i64 w w.heap.size A n ws) (h' : RI .i64 w w.heap.size A' n ts) (hn : n ≤ 16) :
    Calls Try.prog 18 #[.slice A n c, .slice A' n c', .int .i64 i] w (LagPost ws ts n i w) := by
  have HL := Lib.hid h.len
  have HL' := Lib.hid h'.len
  have hrel0 : LagRel ws ts 0 (.int .i64 0) (.int .i64 0) := ⟨fun j hj => by omega, rfl, rfl⟩
  go_enter Try.func18, Try.ntmps18
  go_wp2
  go_loopw [8, 9, 26] (fun s8 s9 i wr => ∃ k : Nat, k ≤ n ∧ i = .int .i64 k ∧ LagRel ws ts k s8 s9 ∧ Below w.heap.size w wr) (fun _ _ i _ => n - (intOf i).toNat)
  case atStart => exact ⟨0, by omega, rfl, hrel0, Below.refl _ _⟩
  case round =>
    obtain ⟨k, hk, rfl, ⟨hg, rfl, rfl⟩, hbw⟩ := hrel
    clear hrel0
    have hsb := sum_bound ws ts k hg (by rw [HL.out]; exact hk) (by rw [HL'.out]; exact hk)
    have HG := Lib.hid hg
    clear hg
    by_cases hlt : k < n
    · obtain ⟨b, o, rfl, hb, c0, -⟩ := (h.below' hbw (Nat.le_refl _)).at_ hlt
      obtain ⟨b', o', rfl, hb', d0, -⟩ := (h'.below' hbw (Nat.le_refl _)).at_ hlt
      have hS := Lib.hid (sumI_take ws k (by rw [HL.out]; exact hlt))
      have hS' := Lib.hid (sumI_take ts k (by rw [HL'.out]; exact hlt))
      have hBad := Lib.hid (LagTells.bad (ws := ws) (ts := ts) (i := i) hlt)
      have hNext := Lib.hid (fun hb : OkAt ws ts k => good_next (p := OkAt ws ts) HG.out hb)
      unfold OkAt at hNext
      have hb1 : b < wr.heap.size := Nat.lt_of_lt_of_le hb hbw.size
      have hb2 : b' < wr.heap.size := Nat.lt_of_lt_of_le hb' hbw.size
      have hkn : (k : Int) < n := by omega
      generalize ws.getD k 0 = y at *
      generalize ts.getD k 0 = z at *
      generalize sumI (ws.take k) = sw at *
      generalize sumI (ts.take k) = st at *
      by_cases a0 : y < 1
      · go_wp2
        go_ret2
        exact ⟨_, _, rfl, hBad.out (fun h => by have := h.1.1; omega), hbw⟩
      by_cases a1 : 100 < y
      · go_wp2
        go_ret2
        exact ⟨_, _, rfl, hBad.out (fun h => by have := h.1.2; omega), hbw⟩
      by_cases a2 : z < 0
      · go_wp2
        go_ret2
        exact ⟨_, _, rfl, hBad.out (fun h => by have := h.2.1; omega), hbw⟩
      by_cases a3 : 1073741824 < z
      · go_wp2
        go_ret2
        exact ⟨_, _, rfl, hBad.out (fun h => by have := h.2.2; omega), hbw⟩
      go_wp2_with fail
      refine wp_region_near wr.heap.size (by kernel_rfl) (by kernel_rfl) ?_
      repeat (go_big_quiet_step (fail))
      refine wpQuiet_nil ?_
      intro w3 hb3
      go_wp2
      go_roundw
      case rel => exact ⟨k + 1, by omega, by go_num, ⟨hNext.out ⟨⟨by omega, by omega⟩, by omega, by omega⟩, by rw [hS'.out], by rw [hS.out]⟩, hbw.trans (hb3.mono hbw.size)⟩
      case measure => simp [intOf]; omega
    · obtain rfl : k = n := by omega
      rw [List.take_of_length_le (show ws.length ≤ k by rw [HL.out]; exact Nat.le_refl _)] at hsb ⊢
      rw [List.take_of_length_le (show ts.length ≤ k by rw [HL'.out]; exact Nat.le_refl _)] at hsb ⊢
      by_cases i0 : i < 0
      · go_wp2
        go_ret2
        exact ⟨_, _, rfl, .inr ⟨HG.out, .inl ⟨.inl i0, rfl, rfl⟩⟩, hbw⟩
      by_cases i1 : (k : Int) ≤ i
      · go_wp2
        go_ret2
        exact ⟨_, _, rfl, .inr ⟨HG.out, .inl ⟨.inr i1, rfl, rfl⟩⟩, hbw⟩
      obtain ⟨j, rfl⟩ : ∃ j : Nat, i = j := ⟨i.toNat, by omega⟩
      have hjk : j < k := by omega
      have hin : (j : Int) < k := by omega
      have hok := HG.out j hjk
      have hEnd := Lib.hid (LagTells.fin (j := j) HG.out)
      obtain ⟨b, o, rfl, hb, c0, -⟩ := (h.below' hbw (Nat.le_refl _)).at_ hjk
      obtain ⟨b', o', rfl, hb', d0, -⟩ := (h'.below' hbw (Nat.le_refl _)).at_ hjk
      have hb1 : b < wr.heap.size := Nat.lt_of_lt_of_le hb hbw.size
      have hb2 : b' < wr.heap.size := Nat.lt_of_lt_of_le hb' hbw.size
      unfold OkAt at hok
      generalize ws.getD j 0 = y at *
      generalize ts.getD j 0 = z at *
      generalize sumI ws = sw at *
      generalize sumI ts = st at *
      have m1 := mul_rng st y (1073741824 * 16) 100 ⟨hsb.2.2.1, by omega⟩ ⟨by have := hok.1.1; omega, hok.1.2⟩
      have m2 := mul_rng z sw 1073741824 1600 hok.2 ⟨hsb.1, by omega⟩
      go_wp2_with fail
      refine wp_region_near wr.heap.size (by kernel_rfl) (by kernel_rfl) ?_
      repeat (go_big_quiet_step (fail))
      refine wpQuiet_nil ?_
      intro w3 hb3
      go_wp2
      go_ret2
      exact ⟨_, _, rfl, hEnd.out ⟨by omega, hin⟩, hbw.trans (hb3.mono hbw.size)⟩
end Go.Proofs.Ytjcbnanajelpjaa
