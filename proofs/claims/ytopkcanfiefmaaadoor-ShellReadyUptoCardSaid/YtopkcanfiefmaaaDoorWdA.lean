/- Names of variables: words.first, words.Name, ringref4.WordName. -/
import Derived.Test.YtopkcanfiefmaaaDoorProg
import Derived.Test.YtopkcanfiefmaaaDoorNear
import Derived.Test.YtopkcanfiefmaaaDoorRecs
import Derived.Test.YtopkcanfiefmaaaDoorOwn
import Derived.WalkSpells
import Derived.WalkLawsBesides
import Derived.Outline
import Derived.LoopTactic
import Derived.IntWalk
namespace Go.Proofs.YtopkcanfiefmaaaDoor
open Go.RowKit
set_option maxHeartbeats 400000
set_option linter.unusedVariables false
set_option linter.unusedSimpArgs false
theorem ob_bool {a b : Bool} (h : a = b) : Ending.returned (.bool a) = .returned (.bool b) := by rw [h]
/-- A text's bytes as numbers. -/
def nums (s : ByteArray) : List Nat := s.data.toList.map UInt8.toNat
theorem nums_len (s : ByteArray) : (nums s).length = s.size := by simp [nums]
theorem nums_at (s : ByteArray) (k : Nat) (h : k < s.size) : (nums s).getD k 0 = (s[k]).toNat := by
  have h' : k < s.data.toList.length := by simpa using h
  simp [nums, List.getD, List.getElem?_map, List.getElem?_eq_getElem h']
  rfl
def letB (c : Nat) : Bool := decide (c = 95 ∨ (97 ≤ c ∧ c ≤ 122) ∨ (65 ≤ c ∧ c ≤ 90))
def nmB (i c : Nat) : Bool := letB c || decide (i ≠ 0 ∧ 48 ≤ c ∧ c ≤ 57)
def goB : Nat → List Nat → Bool
  | _, [] => true
  | i, c :: cs => nmB i c && goB (i + 1) cs
/-- May a variable be called so? -/
def nameW (xs : List Nat) : Bool := decide (xs ≠ []) && goB 0 xs
theorem goB_step {xs : List Nat} {k : Nat} (h : k < xs.length) : goB k (xs.drop k) = (nmB k (xs.getD k 0) && goB (k + 1) (xs.drop (k + 1))) := by
  rw [List.drop_eq_getElem_cons h, goB]
  simp [List.getD, List.getElem?_eq_getElem h]
def Same (b : Bool) (w : World) (e : Ending) (w' : World) : Prop := e = .returned (.bool b) ∧ w' = w
theorem first_any (c : Nat) (w : World) (hc : c < 256) : Calls Tryd.prog 18 #[.int .u8 c] w (Same (letB c) w) := by
  by_cases c0 : c = 95
  · subst c0
    go_enter Tryd.func18, Tryd.ntmps18
    go_wp2
    go_ret
    exact ⟨rfl, rfl⟩
  have d0 : ((c : Int) == 95) = false := by simp; omega
  by_cases c1 : 97 ≤ c
  · by_cases c2 : c ≤ 122
    · have e : Hid (letB c = true) := Lib.hid (by simp [letB]; omega)
      go_enter Tryd.func18, Tryd.ntmps18
      go_wp2
      go_ret
      exact ⟨ob_bool e.out.symm, rfl⟩
    · have e : Hid (letB c = false) := Lib.hid (by simp [letB]; omega)
      have c3 : 65 ≤ c := by omega
      have c4 : ¬ c ≤ 90 := by omega
      go_enter Tryd.func18, Tryd.ntmps18
      go_wp2
      go_ret
      exact ⟨ob_bool (by rw [e.out]; simp; omega), rfl⟩
  · by_cases c3 : 65 ≤ c
    · by_cases c4 : c ≤ 90
      · have e : Hid (letB c = true) := Lib.hid (by simp [letB]; omega)
        go_enter Tryd.func18, Tryd.ntmps18
        go_wp2
        go_ret
        exact ⟨ob_bool (by rw [e.out]; simp; omega), rfl⟩
      · have e : Hid (letB c = false) := Lib.hid (by simp [letB]; omega)
        go_enter Tryd.func18, Tryd.ntmps18
        go_wp2
        go_ret
        exact ⟨ob_bool (by rw [e.out]; simp; omega), rfl⟩
    · have e : Hid (letB c = false) := Lib.hid (by simp [letB]; omega)
      go_enter Tryd.func18, Tryd.ntmps18
      go_wp2
      go_ret
      exact ⟨ob_bool (by rw [e.out]), rfl⟩
theorem empty_text {s : ByteArray} : (s.toList == []) = decide (s.size = 0) := by
  rw [ByteArray.toList_eq, Bool.eq_iff_iff]
  have h : s.data.toList.length = s.size := by simp
  simp only [beq_iff_eq, decide_eq_true_eq]
  constructor
  · intro e; rw [e] at h; exact h.symm
  · intro e; rw [e] at h; exact List.eq_nil_of_length_eq_zero h
theorem empty_dec {s : ByteArray} : decide (s = ByteArray.empty) = decide (s.size = 0) := by
  rw [decide_eq_decide]
  constructor
  · intro h; rw [h]; rfl
  · intro h; exact ByteArray.ext (Array.eq_empty_of_size_eq_zero h)
set_option maxHeartbeats 2000000 in
set_option maxRecDepth 100000 in
theorem name_any (s : ByteArray) (w : World) (hs : s.size ≤ 9223372036854775807) : Calls Tryd.prog 9 #[.string s] w (Same (nameW (nums s)) w) := by
  have hl := nums_len s
  have he := empty_text (s := s)
  have HL := Lib.hid hl
  have HE := Lib.hid he
  clear hl he
  go_enter Tryd.func9, Tryd.ntmps9
  go_wp2
  go_loop [6] (fun i => ∃ k : Nat, k ≤ s.size ∧ i = .int .i64 k ∧ Hid (goB 0 (nums s) = goB k ((nums s).drop k))) (fun i => s.size - (intOf i).toNat)
  case atStart => exact ⟨0, by omega, rfl, Lib.hid rfl⟩
  case round =>
    obtain ⟨k, hk, rfl, hc⟩ := hrel
    by_cases hlt : k < s.size
    · have hst := Lib.hid (hc.out.trans (goB_step (xs := nums s) (k := k) (by rw [HL.out]; exact hlt)))
      rw [nums_at s k hlt] at hst
      have HF := Lib.hid (fun w => first_any (s[k]'hlt).toNat w (s[k]'hlt).toNat_lt)
      obtain ⟨c, hcc⟩ : ∃ c, (s[k]'hlt).toNat = c := ⟨_, rfl⟩
      have hc256 := (s[k]'hlt).toNat_lt
      rw [hcc] at hst hc256 HF
      have hki : (k : Int) < s.size := by omega
      have gone : Hid (nmB k c = false → nameW (nums s) = false) := Lib.hid (fun h => by unfold nameW; rw [hst.out, h]; simp)
      have next : Hid (nmB k c = true → goB 0 (nums s) = goB (k + 1) ((nums s).drop (k + 1))) := Lib.hid (fun h => by rw [hst.out, h, Bool.true_and])
      clear hst hc
      unfold Same at HF
      cases hb : letB c with
      | true =>
        have e := Lib.hid (next.out (by simp [nmB, hb]))
        rw [hb] at HF
        clear hb
        go_wp2_with fail
        refine (HF.out _).mono ?_
        rintro e' w' ⟨rfl, rfl⟩
        go_wp2
        go_round
        case rel => exact ⟨k + 1, by omega, by go_num, e⟩
        case measure => simp [intOf]; omega
      | false =>
        rw [hb] at HF
        by_cases a5 : k = 0
        · have e := Lib.hid (gone.out (by simp [nmB, hb, a5]))
          subst a5
          clear hb
          go_wp2_with fail
          refine (HF.out _).mono ?_
          rintro e' w' ⟨rfl, rfl⟩
          go_wp2
          go_ret
          exact ⟨ob_bool e.out.symm, rfl⟩
        · have d5 : ((k : Int) == 0) = false := by simp; omega
          by_cases a6 : 48 ≤ c ∧ c ≤ 57
          · have e := Lib.hid (next.out (by simp [nmB, hb]; omega))
            obtain ⟨a7, a8⟩ := a6
            have b1 : ¬ c < 48 := by omega
            have b2 : ¬ 57 < c := by omega
            clear hb a5
            go_wp2_with fail
            refine (HF.out _).mono ?_
            rintro e' w' ⟨rfl, rfl⟩
            go_wp2
            go_round
            case rel => exact ⟨k + 1, by omega, by go_num, e⟩
            case measure => simp [intOf]; omega
          · have e := Lib.hid (gone.out (by simp [nmB, hb]; omega))
            clear hb a5
            by_cases b1 : c < 48
            · go_wp2_with fail
              refine (HF.out _).mono ?_
              rintro e' w' ⟨rfl, rfl⟩
              go_wp2
              go_ret
              exact ⟨ob_bool e.out.symm, rfl⟩
            · have b2 : 57 < c := by omega
              go_wp2_with fail
              refine (HF.out _).mono ?_
              rintro e' w' ⟨rfl, rfl⟩
              go_wp2
              go_ret
              exact ⟨ob_bool e.out.symm, rfl⟩
    · obtain rfl : k = s.size := by omega
      have e : Hid ((!decide (s.size = 0)) = nameW (nums s)) := Lib.hid (by
        unfold nameW
        rw [hc.out, List.drop_eq_nil_of_le (by rw [HL.out]; exact Nat.le_refl _), goB, Bool.and_true]
        have := HL.out
        by_cases h0 : s.size = 0
        · have h1 : nums s = [] := List.eq_nil_of_length_eq_zero (by omega)
          simp [h0, h1]
        · have h1 : nums s ≠ [] := fun h => by rw [h] at this; simp at this; omega
          simp [h0, h1])
      have he := HE.out
      go_wp2
      go_ret
      exact ⟨ob_bool (by rw [← e.out, empty_dec]), rfl⟩
end Go.Proofs.YtopkcanfiefmaaaDoor
