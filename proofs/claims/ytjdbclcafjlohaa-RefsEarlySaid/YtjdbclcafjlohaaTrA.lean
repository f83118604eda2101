/- Contracts of trace.Check, ringref4.RecFault, ringref4.TraceFault, ringlaw4.sameBytes. -/
import Derived.Test.YtjdbclcafjlohaaProg
import Derived.Test.YtjdbclcafjlohaaNear
import Derived.Test.YtjdbclcafjlohaaMem
import Derived.Test.YtjdbclcafjlohaaFlow
import Derived.WalkSpells
import Derived.WalkLawsBesides
import Derived.Outline
import Derived.LoopTactic
import Derived.Deep.Light
import Derived.Laws.BitsAllLaws
import Derived.Laws.MakeOwn
namespace Go.Proofs.Ytjdbclcafjlohaa
open Go.RowKit
set_option maxHeartbeats 400000
set_option linter.unusedVariables false
set_option linter.unusedSimpArgs false
theorem ret_bool {a b : Bool} (h : a = b) : Ending.returned (.bool a) = .returned (.bool b) := by rw [h]
theorem ret_int {k : IntKind} {a b : Int} (h : a = b) : Ending.returned (.int k a) = .returned (.int k b) := by rw [h]
/-- A record. -/
structure Rc where
  k : Int
  c : Int
  t : Int
  o : Int
def I64 (x : Int) : Prop := -9223372036854775808 ≤ x ∧ x ≤ 9223372036854775807
def Rc.cells (r : Rc) : List Value := [.int .i64 r.k, .int .i64 r.c, .int .i64 r.t, .int .i64 r.o]
def Rc.zero : Rc := ⟨0, 0, 0, 0⟩
/-- P61.1. -/
def Rc.err (r : Rc) : Int := if r.k < 1 ∨ 9 < r.k then 3 else if r.c < 0 ∨ 4 ≤ r.c ∨ r.t < 1 ∨ 16 < r.t ∨ r.o < 0 ∨ 63 < r.o then 1 else 0
theorem flat_at (rs : List Rc) : ∀ (i j : Nat) (r : Rc), rs[i]? = some r → j < 4 → (rs.flatMap Rc.cells)[i * 4 + j]? = r.cells[j]? := by
  induction rs with
  | nil => intro i j r h; simp at h
  | cons a rs ih =>
    intro i j r h hj
    rw [List.flatMap_cons]
    cases i with
    | zero =>
      simp only [List.getElem?_cons_zero, Option.some.injEq] at h
      subst h
      rw [List.getElem?_append_left (by simp [Rc.cells]; omega)]
      simp
    | succ i =>
      simp only [List.getElem?_cons_succ] at h
      rw [List.getElem?_append_right (by simp [Rc.cells]; omega)]
      have := ih i j r h hj
      rw [← this]
      congr 1
      simp [Rc.cells]; omega
/-- A slice of records that reads as rs. -/
def RR (w : World) (B : Nat) (A : Option Addr) (n : Nat) (rs : List Rc) : Prop := Reads w B 4 A n (rs.flatMap Rc.cells) ∧ rs.length = n
theorem RR.below' {w w' : World} {B B' n : Nat} {A : Option Addr} {rs : List Rc} (h : RR w B A n rs) (hb : Below B' w w') (hB : B ≤ B') : RR w' B A n rs := ⟨h.1.below' hb hB, h.2⟩
theorem RR.more {w : World} {B B' n : Nat} {A : Option Addr} {rs : List Rc} (h : RR w B A n rs) (hB : B ≤ B') : RR w B' A n rs := ⟨h.1.more hB, h.2⟩
theorem RR.at_ {w : World} {B n i : Nat} {A : Option Addr} {rs : List Rc} (h : RR w B A n rs) (hi : i < n) : ∃ b o, A = some ⟨b, o, none⟩ ∧ b < B ∧ w.cell? ⟨b, o + i * 4, none⟩ = some (.int .i64 (rs.getD i .zero).k) ∧
    w.cell? ⟨b, o + i * 4 + 1, none⟩ = some (.int .i64 (rs.getD i .zero).c) ∧ w.cell? ⟨b, o + i * 4 + 2, none⟩ = some (.int .i64 (rs.getD i .zero).t) ∧ w.cell? ⟨b, o + i * 4 + 3, none⟩ = some (.int .i64 (rs.getD i .zero).o) := by
  obtain ⟨b, o, e, hb, hc⟩ := h.1.2 (by omega)
  have hl : i < rs.length := by rw [h.2]; exact hi
  have e1 : rs[i]? = some (rs.getD i .zero) := by simp [List.getD, List.getElem?_eq_getElem hl]
  refine ⟨b, o, e, hb, ?_, ?_, ?_, ?_⟩
  · exact hc (i * 4 + 0) _ ((flat_at rs i 0 _ e1 (by omega)).trans rfl)
  · rw [Nat.add_assoc]; exact hc (i * 4 + 1) _ ((flat_at rs i 1 _ e1 (by omega)).trans rfl)
  · rw [Nat.add_assoc]; exact hc (i * 4 + 2) _ ((flat_at rs i 2 _ e1 (by omega)).trans rfl)
  · rw [Nat.add_assoc]; exact hc (i * 4 + 3) _ ((flat_at rs i 3 _ e1 (by omega)).trans rfl)
theorem check_any (r : Rc) (w : World) : Calls Try.prog 15 #[.agg #[.int .i64 r.k, .int .i64 r.c, .int .i64 r.t, .int .i64 r.o]] w fun e w' => e = .returned (.int .i64 r.err) ∧ Below w.heap.size w w' := by
  obtain ⟨k, c, t, o⟩ := r
  go_enter Try.func15, Try.ntmps15
  go_wp2
  all_goals
    go_ret
    refine ⟨ret_int ?_, (Below.refl _ _).alloc (Nat.le_refl _) _⟩
    go_light
    unfold Rc.err
    dsimp only
    (repeat' split) <;> omega
theorem recFault_any (r : Rc) (w : World) : Calls Try.prog 16 #[.agg #[.int .i64 r.k, .int .i64 r.c, .int .i64 r.t, .int .i64 r.o]] w fun e w' => e = .returned (.int .i64 r.err) ∧ Below w.heap.size w w' := by
  obtain ⟨k, c, t, o⟩ := r
  go_enter Try.func16, Try.ntmps16
  go_wp2
  all_goals
    go_ret
    refine ⟨ret_int ?_, (Below.refl _ _).alloc (Nat.le_refl _) _⟩
    go_light
    unfold Rc.err
    dsimp only
    (repeat' split) <;> omega
theorem sameBytes_any (A A' : Option Addr) (n c n' c' : Nat) (xs ys : List Int) (w : World) (B B' : Nat) (h : RB w B A n xs) (h' : RB w B' A' n' ys) :
    Calls Try.prog 14 #[.slice A n c, .slice A' n' c'] w fun e w' => e = .returned (.bool (decide (xs = ys))) ∧ w = w' := by
  have e1 := h.conv (P := Try.prog) c 25 9 5 Try.underlying25 Try.underlying5 Try.underlying9
  have e2 := h'.conv (P := Try.prog) c' 25 9 5 Try.underlying25 Try.underlying5 Try.underlying9
  go_enter Try.func14, Try.ntmps14
  go_wp2
  go_ret
  exact ⟨ret_bool (strOfNums_beq h.2 h'.2), rfl⟩
/-- The error of the first records that may not be. -/
def errs : List Rc → Int
  | [] => 0
  | r :: rs => if r.err = 0 then errs rs else r.err
def traceErr (rs : List Rc) : Int := if 400 < rs.length then 2 else errs rs
theorem errs_take (rs : List Rc) : ∀ (k : Nat), (∀ j, j < k → (rs.getD j .zero).err = 0) → k < rs.length → (rs.getD k .zero).err ≠ 0 → errs rs = (rs.getD k .zero).err := by
  induction rs with
  | nil => intro k _ h; simp at h
  | cons a rs ih =>
    intro k h0 hk hne
    cases k with
    | zero => simp only [List.getD_cons_zero] at hne ⊢; unfold errs; rw [if_neg hne]
    | succ k =>
      have ha := h0 0 (by omega)
      simp only [List.getD_cons_zero] at ha
      unfold errs
      rw [if_pos ha]
      exact ih k (fun j hj => by have := h0 (j + 1) (by omega); simpa using this) (by simpa using hk) (by simpa using hne)
theorem errs_all (rs : List Rc) (h : ∀ j, j < rs.length → (rs.getD j .zero).err = 0) : errs rs = 0 := by
  induction rs with
  | nil => rfl
  | cons a rs ih =>
    have ha := h 0 (by simp)
    simp only [List.getD_cons_zero] at ha
    unfold errs
    rw [if_pos ha]
    exact ih fun j hj => by have := h (j + 1) (by simpa using hj); simpa using this
theorem fault_any (A : Option Addr) (n c : Nat) (rs : List Rc) (w : World) (B : Nat) (h : RR w B A n rs) (hB : B ≤ w.heap.size) (hn : n ≤ 9223372036854775807) :
    Calls Try.prog 37 #[.slice A n c] w fun e w' => e = .returned (.int .i64 (traceErr rs)) ∧ Below w.heap.size w w' := by
  have hl := h.2
  have HL := Lib.hid hl
  by_cases hbig : 400 < n
  · have ht : traceErr rs = 2 := by unfold traceErr; rw [if_pos (by omega)]
    rw [ht]
    clear hl ht
    go_enter Try.func37, Try.ntmps37
    go_wp2
    go_ret
    exact ⟨rfl, Below.refl _ _⟩
  · have ht : traceErr rs = errs rs := by unfold traceErr; rw [if_neg (by omega)]
    rw [ht]
    clear hl ht
    go_enter Try.func37, Try.ntmps37
    go_wp2
    go_loopw [11] (fun i wr => ∃ k : Nat, k ≤ n ∧ i = .int .i64 k ∧ (∀ j, j < k → (rs.getD j .zero).err = 0) ∧ Below w.heap.size w wr) (fun i _ => n - (intOf i).toNat)
    case atStart => exact ⟨0, by omega, rfl, fun j hj => by omega, Below.refl _ _⟩
    case round =>
      obtain ⟨k, hk, rfl, hgood, hbw⟩ := hrel
      have HG := Lib.hid hgood
      clear hgood
      by_cases hlt : k < n
      · obtain ⟨b, o, rfl, hb, c0, c1, c2, c3⟩ := (h.below' hbw hB).at_ hlt
        generalize hr : rs.getD k .zero = r at *
        have HR := Lib.hid hr
        clear hr
        by_cases he : r.err = 0
        · go_wp2_with (go_at_call 16; refine (recFault_any r _).mono ?_; rintro e w1 ⟨rfl, hb1⟩)
          go_roundw
          case rel =>
            refine ⟨k + 1, by omega, by go_num, fun j hj => ?_, (hbw.alloc hbw.size _).trans (hb1.mono (by simp; exact Nat.le_succ_of_le hbw.size))⟩
            by_cases hjk : j < k
            · exact HG.out j hjk
            · obtain rfl : j = k := by omega
              rw [HR.out]; exact he
          case measure => simp [intOf]; omega
        · have he' : (r.err != 0) = true := by simpa using he
          have hfin := Lib.hid (errs_take rs k HG.out (by rw [HL.out]; exact hlt) (by rw [HR.out]; exact he))
          clear he
          go_wp2_with (go_at_call 16; refine (recFault_any r _).mono ?_; rintro e w1 ⟨rfl, hb1⟩)
          go_ret
          refine ⟨ret_int ?_, (hbw.alloc hbw.size _).trans (hb1.mono (by simp; exact Nat.le_succ_of_le hbw.size))⟩
          rw [hfin.out, HR.out]
      · have hfin := Lib.hid (errs_all rs (fun j hj => HG.out j (by rw [HL.out] at hj; omega)))
        go_wp2
        go_ret
        exact ⟨ret_int hfin.out.symm, hbw⟩
end Go.Proofs.Ytjdbclcafjlohaa
