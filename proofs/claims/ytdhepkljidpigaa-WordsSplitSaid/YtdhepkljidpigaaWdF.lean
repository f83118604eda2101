/- Parts of a word; how long a variable's name is; ringref4.variableAt. -/
import Derived.Test.YtdhepkljidpigaaWdE
namespace Go.Proofs.Ytdhepkljidpigaa
open Go.RowKit
set_option maxHeartbeats 400000
set_option linter.unusedVariables false
set_option linter.unusedSimpArgs false
structure Pt where
  text : ByteArray
  var : Bool
  quoted : Bool
def Pt.zero : Pt := ⟨ByteArray.empty, false, false⟩
def Pt.cells (p : Pt) : List Value := [.string p.text, .bool p.var, .bool p.quoted]
theorem Pt.cells_len (p : Pt) : p.cells.length = 3 := rfl
def bt (s : ByteArray) (k : Nat) : Nat := (nums s).getD k 0
theorem bt_at (s : ByteArray) (k : Nat) (h : k < s.size) : (s[k]).toNat = bt s k := (nums_at s k h).symm
theorem bt_lt (s : ByteArray) (k : Nat) : bt s k < 256 := nums_lt' s k
theorem nums_cut (s : ByteArray) (i j : Nat) : nums (s.extract i j) = ((nums s).take j).drop i := by
  unfold nums
  rw [cut_list, List.map_drop, List.map_take]
def vr : Nat → List Nat → Nat
  | _, [] => 0
  | i, c :: cs => if nmB i c = true then vr (i + 1) cs + 1 else 0
theorem vr_le : ∀ (i : Nat) (xs : List Nat), vr i xs ≤ xs.length
  | _, [] => Nat.le_refl _
  | i, c :: cs => by
    unfold vr
    split
    · have := vr_le (i + 1) cs; simp; omega
    · simp
theorem vr_end (i : Nat) (xs : List Nat) {k : Nat} (h : xs.length ≤ k) : vr i (xs.drop k) = 0 := by
  rw [List.drop_eq_nil_of_le h]; rfl
theorem vr_step {xs : List Nat} {k : Nat} (i : Nat) (h : k < xs.length) : vr i (xs.drop k) = if nmB i (xs.getD k 0) = true then vr (i + 1) (xs.drop (k + 1)) + 1 else 0 := by
  rw [List.drop_eq_getElem_cons h, vr]
  simp [List.getD, List.getElem?_eq_getElem h]
theorem goB_snoc (c : Nat) : ∀ (i : Nat) (xs : List Nat), goB i (xs ++ [c]) = (goB i xs && nmB (i + xs.length) c)
  | i, [] => by simp [goB]
  | i, x :: xs => by
    simp only [List.cons_append, goB, goB_snoc c (i + 1) xs, List.length_cons]
    rw [Bool.and_assoc, show i + 1 + xs.length = i + (xs.length + 1) by omega]
/-- How long the name is that a text begins with. -/
def varN (s : ByteArray) : Nat := if s.size ≠ 0 ∧ bt s 0 = 63 then 1 else vr 0 (nums s)
theorem varN_le (s : ByteArray) : varN s ≤ s.size := by
  unfold varN
  split
  · omega
  · have := vr_le 0 (nums s); rw [nums_len] at this; exact this
/-- What the loop over a name keeps. -/
def NmUp (s : ByteArray) (n : Nat) : Prop := goB 0 ((nums s).take n) = true ∧ vr 0 (nums s) = n + vr n ((nums s).drop n)
theorem nmUp_zero (s : ByteArray) : NmUp s 0 := ⟨rfl, by simp⟩
theorem name_cut {s : ByteArray} {n : Nat} (h : n < s.size) (hu : NmUp s n) : nameW (nums (s.extract 0 (n + 1))) = nmB n (bt s n) := by
  rw [nums_cut, List.drop_zero]
  have hl : n < (nums s).length := by rw [nums_len]; exact h
  rw [List.take_succ_eq_append_getElem hl]
  unfold nameW
  rw [goB_snoc, hu.1]
  have : (nums s)[n] = bt s n := by unfold bt; simp [List.getD, List.getElem?_eq_getElem hl]
  rw [this]
  simp [Nat.min_eq_left (Nat.le_of_lt hl)]
theorem nmUp_step {s : ByteArray} {n : Nat} (h : n < s.size) (hu : NmUp s n) (hb : nmB n (bt s n) = true) : NmUp s (n + 1) := by
  have hl : n < (nums s).length := by rw [nums_len]; exact h
  have e : (nums s)[n] = bt s n := by unfold bt; simp [List.getD, List.getElem?_eq_getElem hl]
  refine ⟨?_, ?_⟩
  · rw [List.take_succ_eq_append_getElem hl, goB_snoc, hu.1, e]
    simp [Nat.min_eq_left (Nat.le_of_lt hl)]
    exact hb
  · rw [hu.2, vr_step n hl]
    have : (nums s).getD n 0 = bt s n := rfl
    rw [this, if_pos hb]
    omega
theorem nmUp_stop {s : ByteArray} {n : Nat} (h : n < s.size) (hu : NmUp s n) (hb : nmB n (bt s n) = false) : vr 0 (nums s) = n := by
  have hl : n < (nums s).length := by rw [nums_len]; exact h
  rw [hu.2, vr_step n hl]
  have : (nums s).getD n 0 = bt s n := rfl
  rw [this, hb]
  simp
theorem nmUp_end {s : ByteArray} (hu : NmUp s s.size) : vr 0 (nums s) = s.size := by
  rw [hu.2, vr_end _ _ (by rw [nums_len]; exact Nat.le_refl _)]; rfl
def SaysB (v : Value) (w : World) (e : Ending) (w' : World) : Prop := e = .returned v ∧ Below w.heap.size w w'
set_option maxHeartbeats 1000000 in
set_option maxRecDepth 100000 in
theorem variableAt_any (s : ByteArray) (w : World) (hs : s.size ≤ 9223372036854775806) : Calls Try.prog 25 #[.string s] w (SaysB (.int .i64 (varN s)) w) := by
  have HV : Hid (varN s = if s.size ≠ 0 ∧ bt s 0 = 63 then 1 else vr 0 (nums s)) := Lib.hid rfl
  have HN : Hid (∀ k w, Calls Try.prog 8 #[.string (s.extract 0 k)] w (SameB (nameW (nums (s.extract 0 k))) w)) := Lib.hid fun k w => wordName_any _ w (by simp; omega)
  have hw0 : Below w.heap.size w w := Below.refl _ _
  go_enter Try.func25, Try.ntmps25
  by_cases hz : s.size = 0
  · obtain rfl : s = ByteArray.empty := ByteArray.ext (Array.eq_empty_of_size_eq_zero hz)
    have e : Hid (varN ByteArray.empty = 0) := Lib.hid rfl
    go_wp2
    go_loopw [3] (fun i wr => i = .int .i64 0 ∧ Below w.heap.size w wr) (fun i _ => 0)
    case atStart => exact ⟨rfl, hw0⟩
    case round =>
      obtain ⟨rfl, hbw⟩ := hrel
      go_wp2
      go_ret
      exact ⟨by rw [e.out]; rfl, hbw⟩
  · have hne : s.toList.isEmpty = false := by have h := empty_text (s := s); rw [decide_eq_false hz] at h; cases hl : s.toList with | nil => rw [hl] at h; cases h | cons x y => rfl
    have hzi : (0 : Int) < s.size := by omega
    have hz' : 0 < s.size := by omega
    have hb0 := bt_at s 0 (by omega)
    by_cases hq : bt s 0 = 63
    · have e : Hid (varN s = 1) := Lib.hid (by rw [HV.out, if_pos ⟨hz, hq⟩])
      have hb1 : (s[0]'hz').toNat = 63 := hb0.trans hq
      clear hb0 hq
      go_wp2_with fail
      go_ret
      exact ⟨by rw [e.out]; rfl, hw0⟩
    · have hb1 : (((s[0]'hz').toNat : Int) == 63) = false := by rw [hb0]; simp; omega
      have e : Hid (varN s = vr 0 (nums s)) := Lib.hid (by rw [HV.out, if_neg (fun h => hq h.2)])
      clear hb0
      go_wp2_with fail
      go_loopw [3] (fun i wr => ∃ k : Nat, k ≤ s.size ∧ i = .int .i64 k ∧ Hid (NmUp s k) ∧ Below w.heap.size w wr) (fun i _ => s.size - (intOf i).toNat)
      case atStart => exact ⟨0, by omega, rfl, Lib.hid (nmUp_zero s), hw0⟩
      case round =>
        obtain ⟨k, hk, rfl, hu, hbw⟩ := hrel
        by_cases hlt : k < s.size
        · have hki : (k : Int) < s.size := by omega
          have hk1 : ((k : Int) + 1 ≤ s.size) := by omega
          have HC := Lib.hid (HN.out (k + 1) wr)
          rw [name_cut hlt hu.out] at HC
          unfold SameB at HC
          cases hb : nmB k (bt s k) with
          | true =>
            have hu' := Lib.hid (nmUp_step hlt hu.out hb)
            rw [hb] at HC
            clear hb
            go_wp2_with fail
            refine HC.out.mono ?_
            rintro e' w' ⟨rfl, hb'⟩
            go_wp2
            go_roundw
            case rel => exact ⟨k + 1, by omega, by go_num, hu', hbw.trans (hb'.mono hbw.size)⟩
            case measure => simp [intOf]; omega
          | false =>
            have e2 := Lib.hid (nmUp_stop hlt hu.out hb)
            rw [hb] at HC
            clear hb
            go_wp2_with fail
            refine HC.out.mono ?_
            rintro e' w' ⟨rfl, hb'⟩
            go_wp2
            go_ret
            exact ⟨by rw [e.out, e2.out]; rfl, hbw.trans (hb'.mono hbw.size)⟩
        · obtain rfl : k = s.size := by omega
          have e2 := Lib.hid (nmUp_end hu.out)
          go_wp2
          go_ret
          exact ⟨by rw [e.out, e2.out]; rfl, hbw⟩
end Go.Proofs.Ytdhepkljidpigaa
