/- ringref4.signAt; strings.Index, IndexByte, Contains at one byte, by the shelf. -/
import Derived.Test.YtdhepkljidpigaaWdD
import Derived.Shelf.Strings.Search1
namespace Go.Proofs
open Go.Shelf
shelf_lay Lays.n143 Nm 143 at Try as Try.lays143
shelf_lay Lays.n217 Nm 217 at Try as Try.lays217
end Go.Proofs
namespace Go.Proofs.Ytdhepkljidpigaa
open Go.RowKit
set_option maxHeartbeats 400000
set_option linter.unusedVariables false
set_option linter.unusedSimpArgs false
theorem contains_one (s : ByteArray) (c : UInt8) (w : World) : Calls Try.prog 23 #[.string s, .string ⟨#[c]⟩] w fun e w' => e = .returned (.bool (decide (0 ≤ Lib.indexByte s.data.toList c))) ∧ w' = w :=
  Any.strings_Contains_one Try.lays144 s c w
theorem index_one (s : ByteArray) (c : UInt8) (w : World) : Calls Try.prog 26 #[.string s, .string ⟨#[c]⟩] w fun e w' => e = .returned (.int .i64 (Lib.indexByte s.data.toList c)) ∧ w' = w :=
  Any.strings_Index_one Try.lays143 s c w
theorem indexByte_any (s : ByteArray) (c : Int) (w : World) : Calls Try.prog 28 #[.string s, .int .u8 c] w fun e w' => e = .returned (.int .i64 (Lib.indexByte s.data.toList c.toNat.toUInt8)) ∧ w' = w := by
  have h : Calls Try.prog 30 #[.string s, .int .u8 c] w fun e w' => e = .returned (.int .i64 (Lib.indexByte s.data.toList c.toNat.toUInt8)) ∧ w' = w := Any.stringslite_IndexByte Try.lays217 s c w
  go_enter Try.func28, Try.ntmps28
  go_wp2_with fail
  refine h.mono ?_
  rintro e w' ⟨rfl, rfl⟩
  go_wp2
  go_ret
  exact ⟨rfl, rfl⟩
theorem oneB_index (a : UInt8) : decide (0 ≤ Lib.indexByte [124, 38, 59, 60, 62, 40, 41] a) = oneB a := by
  unfold oneB
  simp only [Lib.indexByte]
  by_cases h1 : (124 : UInt8) = a
  · subst h1; rfl
  by_cases h2 : (38 : UInt8) = a
  · subst h2; rfl
  by_cases h3 : (59 : UInt8) = a
  · subst h3; rfl
  by_cases h4 : (60 : UInt8) = a
  · subst h4; rfl
  by_cases h5 : (62 : UInt8) = a
  · subst h5; rfl
  by_cases h6 : (40 : UInt8) = a
  · subst h6; rfl
  by_cases h7 : (41 : UInt8) = a
  · subst h7; rfl
  simp [h1, h2, h3, h4, h5, h6, h7, Ne.symm h1, Ne.symm h2, Ne.symm h3, Ne.symm h4, Ne.symm h5, Ne.symm h6, Ne.symm h7]
theorem cut_list (s : ByteArray) (i j : Nat) : (s.extract i j).data.toList = (s.data.toList.take j).drop i := by
  simp [ByteArray.data_extract, List.extract_eq_take_drop, List.drop_take]
theorem cut_list' (s : ByteArray) (i j : Nat) : (s.extract i j).toList = (s.data.toList.take j).drop i := by
  rw [ByteArray.toList_eq, cut_list]
theorem opS_of {s t : ByteArray} (h : sgn s.data.toList = t.data.toList) : opS s = t := by
  have := opS_sgn s
  rw [h] at this
  exact ByteArray.ext (Array.toList_inj.1 this)
theorem opS_two {s : ByteArray} (h1 : 1 < s.size) (h : (s.extract 0 2).toList = [38, 38] ∨ (s.extract 0 2).toList = [124, 124] ∨ (s.extract 0 2).toList = [62, 62]) : opS s = s.extract 0 2 := by
  apply opS_of
  rw [cut_list'] at h
  rw [cut_list]
  have hl : s.data.toList.length = s.size := by simp
  generalize s.data.toList = l at *
  match l, hl with
  | a :: b :: r, _ =>
    simp only [List.take_succ_cons, List.take_zero, List.drop_zero, List.cons.injEq, and_true] at h ⊢
    rcases h with ⟨rfl, rfl⟩ | ⟨rfl, rfl⟩ | ⟨rfl, rfl⟩ <;> rfl
  | [_], hl => simp at hl; omega
  | [], hl => simp at hl; omega
theorem opS_rest {s : ByteArray} (h1 : 0 < s.size) (h : 1 < s.size → ¬ ((s.extract 0 2).toList = [38, 38] ∨ (s.extract 0 2).toList = [124, 124] ∨ (s.extract 0 2).toList = [62, 62])) :
    ∃ a, s.extract 0 1 = ⟨#[a]⟩ ∧ (oneB a = true → opS s = ⟨#[a]⟩) ∧ (oneB a = false → opS s = ⟨#[]⟩) := by
  rw [cut_list'] at h
  have hl : s.data.toList.length = s.size := by simp
  have hx := cut_list s 0 1
  have ho : ∀ t : ByteArray, sgn s.data.toList = t.data.toList → opS s = t := fun t => opS_of
  generalize s.data.toList = l at *
  have key : ∀ a r, l = a :: r → s.extract 0 1 = ⟨#[a]⟩ := fun a r e => by
    subst e
    exact ByteArray.ext (Array.toList_inj.1 hx)
  match l, hl with
  | a :: b :: r, hl =>
    refine ⟨a, key a _ rfl, fun e => ho _ ?_, fun e => ho _ ?_⟩
    all_goals
      have h2 := h (by rw [← hl]; simp)
      simp only [List.take_succ_cons, List.take_zero, List.drop_zero, List.cons.injEq, and_true] at h2
      have ht : twoB a b = false := by
        unfold twoB
        simpa [not_or, and_assoc] using h2
      simp [sgn, ht, e]
  | [a], _ => exact ⟨a, key a _ rfl, fun e => ho _ (by simp [sgn, e]), fun e => ho _ (by simp [sgn, e])⟩
  | [], hl => simp at hl; omega
def Says (v : Value) (w : World) (e : Ending) (w' : World) : Prop := e = .returned v ∧ w' = w
set_option maxRecDepth 100000 in
theorem signAt_any (s : ByteArray) (w : World) (hs : s.size ≤ 9223372036854775807) : Calls Try.prog 13 #[.string s] w (Says (.string (opS s)) w) := by
  have HC := Lib.hid (fun a => contains_one ⟨#[124, 38, 59, 60, 62, 40, 41]⟩ a w)
  have rest : (hz : 0 < s.size) → (1 < s.size → ¬ ((s.extract 0 2).toList = [38, 38] ∨ (s.extract 0 2).toList = [124, 124] ∨ (s.extract 0 2).toList = [62, 62])) → 
      ∃ a, s.extract 0 1 = ⟨#[a]⟩ ∧ (oneB a = true → opS s = ⟨#[a]⟩) ∧ (oneB a = false → opS s = ⟨#[]⟩) := fun hz h => opS_rest hz h
  have two := @opS_two s
  go_enter Try.func13, Try.ntmps13
  by_cases h2 : 1 < s.size
  · have g : (1 : Int) < s.size := by omega
    have g2 : (2 : Int) ≤ s.size := by omega
    have hz : 0 < s.size := by omega
    by_cases e1 : (s.extract 0 2).toList = [38, 38]
    · have e := Lib.hid (two h2 (.inl e1))
      clear two rest
      go_wp2
      go_ret
      exact ⟨by rw [e.out]; rfl, rfl⟩
    by_cases e2 : (s.extract 0 2).toList = [124, 124]
    · have e := Lib.hid (two h2 (.inr (.inl e2)))
      clear two rest
      go_wp2
      go_ret
      exact ⟨by rw [e.out]; rfl, rfl⟩
    by_cases e3 : (s.extract 0 2).toList = [62, 62]
    · have e := Lib.hid (two h2 (.inr (.inr e3)))
      clear two rest
      go_wp2
      go_ret
      exact ⟨by rw [e.out]; rfl, rfl⟩
    have q1 : ((s.extract 0 2).toList == [38, 38]) = false := by simpa using e1
    have q2 : ((s.extract 0 2).toList == [124, 124]) = false := by simpa using e2
    have q3 : ((s.extract 0 2).toList == [62, 62]) = false := by simpa using e3
    obtain ⟨a, ha, hy, hn⟩ := rest hz (fun _ => by simp [e1, e2, e3])
    clear two rest
    have HC' := Lib.hid (HC.out a)
    have hix := oneB_index a
    have ha1 : (1 : Int) ≤ s.size := by omega
    have hne : s.toList.isEmpty = false := by have h := empty_text (s := s); rw [decide_eq_false (by omega)] at h; cases hl : s.toList with | nil => rw [hl] at h; cases h | cons x y => rfl
    cases hb : oneB a with
    | true =>
      have e := Lib.hid (hy hb)
      rw [hb] at hix
      clear hy hn hb
      go_wp2_with fail
      refine HC'.out.mono ?_
      rintro e' w' ⟨rfl, rfl⟩
      rw [hix]
      go_wp2
      go_ret
      exact ⟨by rw [e.out, ← ha]; rfl, rfl⟩
    | false =>
      have e := Lib.hid (hn hb)
      rw [hb] at hix
      clear hy hn hb
      go_wp2_with fail
      refine HC'.out.mono ?_
      rintro e' w' ⟨rfl, rfl⟩
      rw [hix]
      go_wp2
      go_ret
      exact ⟨by rw [e.out]; rfl, rfl⟩
  · have g : ¬ (1 : Int) < s.size := by omega
    by_cases hz : 0 < s.size
    · obtain ⟨a, ha, hy, hn⟩ := rest hz (fun h => absurd h h2)
      clear two rest
      have HC' := Lib.hid (HC.out a)
      have hix := oneB_index a
      have ha1 : (1 : Int) ≤ s.size := by omega
      have hne : s.toList.isEmpty = false := by have h := empty_text (s := s); rw [decide_eq_false (by omega)] at h; cases hl : s.toList with | nil => rw [hl] at h; cases h | cons x y => rfl
      cases hb : oneB a with
      | true =>
        have e := Lib.hid (hy hb)
        rw [hb] at hix
        clear hy hn hb
        go_wp2_with fail
        refine HC'.out.mono ?_
        rintro e' w' ⟨rfl, rfl⟩
        rw [hix]
        go_wp2
        go_ret
        exact ⟨by rw [e.out, ← ha]; rfl, rfl⟩
      | false =>
        have e := Lib.hid (hn hb)
        rw [hb] at hix
        clear hy hn hb
        go_wp2_with fail
        refine HC'.out.mono ?_
        rintro e' w' ⟨rfl, rfl⟩
        rw [hix]
        go_wp2
        go_ret
        exact ⟨by rw [e.out]; rfl, rfl⟩
    · have h0 : s = ByteArray.empty := ByteArray.ext (Array.eq_empty_of_size_eq_zero (show s.size = 0 by omega))
      clear two rest
      subst h0
      have e : Hid (opS ByteArray.empty = ⟨#[]⟩) := Lib.hid (opS_of (t := ⟨#[]⟩) rfl)
      go_wp2
      go_ret
      exact ⟨by rw [e.out]; rfl, rfl⟩
end Go.Proofs.Ytdhepkljidpigaa
