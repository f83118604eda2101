/- Waiters (wait.waiter) and contracts of slices.IndexFunc and slices.ContainsFunc over them with the two closures. -/
import Derived.Test.YtenhcpobncmedaaPrA
import Derived.Test.YtenhcpobncmedaaRecs
namespace Go.Proofs.Ytenhcpobncmedaa
open Go.RowKit
set_option maxHeartbeats 400000
set_option linter.unusedVariables false
set_option linter.unusedSimpArgs false
structure Wt where
  t : Int
  al : Bool
def Wt.cells (c : Wt) : List Value := [.int .i64 c.t, .bool c.al]
def Wt.zero : Wt := ⟨0, false⟩
/-- Who waits, in order. -/
def wts (ws : List Wt) : List Int := ws.map Wt.t
theorem wts_getD (ws : List Wt) (k : Nat) : (wts ws).getD k 0 = (ws.getD k Wt.zero).t := by
  unfold wts
  rw [List.getD_eq_getElem?_getD, List.getD_eq_getElem?_getD, List.getElem?_map]
  cases ws[k]? <;> rfl
theorem Wt.at_ {w : World} {B n i : Nat} {A : Option Addr} {cs : List Wt} (h : RS Wt.cells 2 w B A n cs) (hi : i < n) : ∃ b o, A = some ⟨b, o, none⟩ ∧ b < B ∧ w.cell? ⟨b, o + i * 2, none⟩ = some (.int .i64 (cs.getD i Wt.zero).t) ∧ w.cell? ⟨b, o + i * 2 + 1, none⟩ = some (.bool (cs.getD i Wt.zero).al) := by
  obtain ⟨b, o, e, hb, _, hc⟩ := RS.at_ (cl := Wt.cells) (s := 2) (fun _ => rfl) Wt.zero h hi
  exact ⟨b, o, e, hb, hc 0 _ rfl, hc 1 _ rfl⟩
set_option maxRecDepth 100000 in
theorem clo154 (c : Int) (al : Bool) (x : Int) (g : Nat) (w : World) (hc : w.cell? ⟨g, 0, none⟩ = some (.int .i64 x)) :
    Calls Try.prog 154 #[.agg #[.int .i64 c, .bool al], .pointer (some ⟨g, 0, none⟩)] w fun e w' => e = .returned (.bool (c == x)) ∧ Below w.heap.size w w' := by
  have hlt := pr_lt_cell hc
  have hne : ¬ g = w.heap.size := by omega
  go_enter Try.func154, Try.ntmps154
  go_wp2
  go_ret
  exact ⟨rfl, (Below.refl _ _).alloc (Nat.le_refl _) _⟩
set_option maxRecDepth 100000 in
theorem clo114 (c : Int) (al : Bool) (x : Int) (g : Nat) (w : World) (hc : w.cell? ⟨g, 0, none⟩ = some (.int .i64 x)) :
    Calls Try.prog 114 #[.agg #[.int .i64 c, .bool al], .pointer (some ⟨g, 0, none⟩)] w fun e w' => e = .returned (.bool (c == x)) ∧ Below w.heap.size w w' := by
  have hlt := pr_lt_cell hc
  have hne : ¬ g = w.heap.size := by omega
  go_enter Try.func114, Try.ntmps114
  go_wp2
  go_ret
  exact ⟨rfl, (Below.refl _ _).alloc (Nat.le_refl _) _⟩
set_option maxRecDepth 100000 in
theorem idx155_154 (x : Int) (g : Nat) (A : Option Addr) (n c : Nat) (cs : List Wt) (w : World) (B : Nat) (h : RS Wt.cells 2 w B A n cs) (hB : B ≤ w.heap.size) (hn : n ≤ 9223372036854775807) (hc : w.cell? ⟨g, 0, none⟩ = some (.int .i64 x)) :
    Calls Try.prog 155 #[.slice A n c, .func (.func 154) #[] #[.pointer (some ⟨g, 0, none⟩)]] w fun e w' => e = .returned (.int .i64 (idxI (wts cs) x)) ∧ Below w.heap.size w w' := by
  have HL : Hid ((wts cs).length = n) := Lib.hid (by unfold wts; rw [List.length_map]; exact h.2)
  have hgl := pr_lt_cell hc
  go_enter Try.func155, Try.ntmps155
  go_wp2
  go_loopw [8] (fun i wr => ∃ k : Nat, k ≤ n ∧ i = .int .i64 k ∧ Hid (∀ j, j < k → (wts cs).getD j 0 ≠ x) ∧ Below w.heap.size w wr) (fun i _ => n - (intOf i).toNat)
  case atStart => exact ⟨0, by omega, rfl, Lib.hid (fun j hj => by omega), Below.refl _ _⟩
  case round =>
    obtain ⟨k, hk, rfl, hno, hbw⟩ := hrel
    have hcr : wr.cell? ⟨g, 0, none⟩ = some (.int .i64 x) := (hbw.cell (p := ⟨g, 0, none⟩) hgl).trans hc
    by_cases hlt : k < n
    · obtain ⟨b, o, rfl, hb, c0, c1⟩ := Wt.at_ (h.below' hbw hB) hlt
      have hY := Lib.hid (fun y => idxI_at (xs := wts cs) (x := x) (k := k) (by rw [HL.out]; exact hlt) y hno.out)
      have hN := Lib.hid (fun y => sl_next (p := fun j => (wts cs).getD j 0 ≠ x) hno.out y)
      rw [wts_getD] at hY hN
      generalize (cs.getD k Wt.zero).t = y at *
      generalize (cs.getD k Wt.zero).al = al at *
      have HF := Lib.hid (clo154 y al x g wr hcr)
      by_cases hp : y = x
      · have d : (y == x) = true := by simpa using hp
        have hr := Lib.hid (hY.out hp)
        rw [d] at HF
        clear hp
        go_wp2_with fail
        refine HF.out.mono ?_
        rintro e w1 ⟨rfl, hb1⟩
        go_wp2
        go_ret
        exact ⟨sl_int hr.out.symm, hbw.trans (hb1.mono hbw.size)⟩
      · have d : (y == x) = false := by simpa using hp
        rw [d] at HF
        go_wp2_with fail
        refine HF.out.mono ?_
        rintro e w1 ⟨rfl, hb1⟩
        go_wp2
        go_roundw
        case rel => exact ⟨k + 1, by omega, by go_num, Lib.hid (hN.out hp), hbw.trans (hb1.mono hbw.size)⟩
        case measure => simp [intOf]; omega
    · obtain rfl : k = n := by omega
      go_wp2
      go_ret
      exact ⟨sl_int (idxI_none (by rw [HL.out]; exact hno.out)).symm, hbw⟩
set_option maxRecDepth 100000 in
theorem idx155_114 (x : Int) (g : Nat) (A : Option Addr) (n c : Nat) (cs : List Wt) (w : World) (B : Nat) (h : RS Wt.cells 2 w B A n cs) (hB : B ≤ w.heap.size) (hn : n ≤ 9223372036854775807) (hc : w.cell? ⟨g, 0, none⟩ = some (.int .i64 x)) :
    Calls Try.prog 155 #[.slice A n c, .func (.func 114) #[] #[.pointer (some ⟨g, 0, none⟩)]] w fun e w' => e = .returned (.int .i64 (idxI (wts cs) x)) ∧ Below w.heap.size w w' := by
  have HL : Hid ((wts cs).length = n) := Lib.hid (by unfold wts; rw [List.length_map]; exact h.2)
  have hgl := pr_lt_cell hc
  go_enter Try.func155, Try.ntmps155
  go_wp2
  go_loopw [8] (fun i wr => ∃ k : Nat, k ≤ n ∧ i = .int .i64 k ∧ Hid (∀ j, j < k → (wts cs).getD j 0 ≠ x) ∧ Below w.heap.size w wr) (fun i _ => n - (intOf i).toNat)
  case atStart => exact ⟨0, by omega, rfl, Lib.hid (fun j hj => by omega), Below.refl _ _⟩
  case round =>
    obtain ⟨k, hk, rfl, hno, hbw⟩ := hrel
    have hcr : wr.cell? ⟨g, 0, none⟩ = some (.int .i64 x) := (hbw.cell (p := ⟨g, 0, none⟩) hgl).trans hc
    by_cases hlt : k < n
    · obtain ⟨b, o, rfl, hb, c0, c1⟩ := Wt.at_ (h.below' hbw hB) hlt
      have hY := Lib.hid (fun y => idxI_at (xs := wts cs) (x := x) (k := k) (by rw [HL.out]; exact hlt) y hno.out)
      have hN := Lib.hid (fun y => sl_next (p := fun j => (wts cs).getD j 0 ≠ x) hno.out y)
      rw [wts_getD] at hY hN
      generalize (cs.getD k Wt.zero).t = y at *
      generalize (cs.getD k Wt.zero).al = al at *
      have HF := Lib.hid (clo114 y al x g wr hcr)
      by_cases hp : y = x
      · have d : (y == x) = true := by simpa using hp
        have hr := Lib.hid (hY.out hp)
        rw [d] at HF
        clear hp
        go_wp2_with fail
        refine HF.out.mono ?_
        rintro e w1 ⟨rfl, hb1⟩
        go_wp2
        go_ret
        exact ⟨sl_int hr.out.symm, hbw.trans (hb1.mono hbw.size)⟩
      · have d : (y == x) = false := by simpa using hp
        rw [d] at HF
        go_wp2_with fail
        refine HF.out.mono ?_
        rintro e w1 ⟨rfl, hb1⟩
        go_wp2
        go_roundw
        case rel => exact ⟨k + 1, by omega, by go_num, Lib.hid (hN.out hp), hbw.trans (hb1.mono hbw.size)⟩
        case measure => simp [intOf]; omega
    · obtain rfl : k = n := by omega
      go_wp2
      go_ret
      exact ⟨sl_int (idxI_none (by rw [HL.out]; exact hno.out)).symm, hbw⟩
set_option maxRecDepth 100000 in
theorem has153 (x : Int) (g : Nat) (A : Option Addr) (n c : Nat) (cs : List Wt) (w : World) (B : Nat) (h : RS Wt.cells 2 w B A n cs) (hB : B ≤ w.heap.size) (hn : n ≤ 9223372036854775807) (hc : w.cell? ⟨g, 0, none⟩ = some (.int .i64 x)) :
    Calls Try.prog 153 #[.slice A n c, .func (.func 154) #[] #[.pointer (some ⟨g, 0, none⟩)]] w fun e w' => e = .returned (.bool ((wts cs).contains x)) ∧ Below w.heap.size w w' := by
  have HQ := Lib.hid (idxI_nonneg (wts cs) x)
  have HX := Lib.hid (idx155_154 x g A n c cs w B h hB hn hc)
  clear h
  generalize (wts cs).contains x = q at *
  generalize idxI (wts cs) x = i at *
  have d := HQ.out
  go_enter Try.func153, Try.ntmps153
  go_wp2_with fail
  refine HX.out.mono ?_
  rintro e w1 ⟨rfl, hb⟩
  go_wp2
  go_ret
  exact ⟨rfl, hb⟩
end Go.Proofs.Ytenhcpobncmedaa
