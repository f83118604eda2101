/- ringref4.WordName (printed by mkWdB.py). -/
import Derived.Test.YtopkcanfiefmaaaDoorWdA
import Derived.Lib.AtoiErrMem
namespace Go.Proofs.YtopkcanfiefmaaaDoor
open Go.RowKit
set_option maxHeartbeats 400000
set_option linter.unusedVariables false
set_option linter.unusedSimpArgs false
theorem nums_lt (s : ByteArray) : ∀ c ∈ nums s, c < 256 := by
  intro c hc
  obtain ⟨u, _, rfl⟩ := List.mem_map.1 hc
  exact u.toNat_lt
theorem nums_lt' (s : ByteArray) (k : Nat) : (nums s).getD k 0 < 256 := by
  by_cases h : k < (nums s).length
  · have := nums_lt s _ (List.getElem_mem h)
    simpa [List.getD, List.getElem?_eq_getElem h] using this
  · simp [List.getD, List.getElem?_eq_none (by omega : (nums s).length ≤ k)]
theorem bytes_cell (w : World) (s : ByteArray) {k : Nat} (h : k < s.size) : (Lib.bytesWorld w 5 s).cell? ⟨w.heap.size, k, none⟩ = some (.int .u8 ((nums s).getD k 0)) := by
  rw [Lib.bytesWorld_cell w 5 s k h, nums_at s k h]
  simp [List.getD, h]
  rfl
def SameB (b : Bool) (w : World) (e : Ending) (w' : World) : Prop := e = .returned (.bool b) ∧ Below w.heap.size w w'
set_option maxHeartbeats 4000000 in
set_option maxRecDepth 100000 in
theorem wordName_any (s : ByteArray) (w : World) (hs : s.size ≤ 9223372036854775807) : Calls Tryd.prog 15 #[.string s] w (SameB (nameW (nums s)) w) := by
  have hl := nums_len s
  have HL := Lib.hid hl
  clear hl
  have hsb := fun W s => Lib.run_convert_string_bytes (P := Tryd.prog) W 9 59 5 s Tryd.underlying9 Tryd.underlying59 Tryd.underlying5
  have HBW := Lib.hid (show Below w.heap.size w (Lib.bytesWorld w 5 s) from below_bytes _ _ _)
  go_enter Tryd.func15, Tryd.ntmps15
  go_wp2
  go_loop [9] (fun i => ∃ k : Nat, k ≤ s.size ∧ i = .int .i64 k ∧ Hid (goB 0 (nums s) = goB k ((nums s).drop k))) (fun i => s.size - (intOf i).toNat)
  case atStart => exact ⟨0, by omega, rfl, Lib.hid rfl⟩
  case round =>
    obtain ⟨k, hk, rfl, hc⟩ := hrel
    by_cases hlt : k < s.size
    · have hst := Lib.hid (hc.out.trans (goB_step (xs := nums s) (k := k) (by rw [HL.out]; exact hlt)))
      have hcell := bytes_cell w s hlt
      have hc256 := nums_lt' s k
      generalize (nums s).getD k 0 = c at *
      have hki : (k : Int) < s.size := by omega
      have gone : Hid (nmB k c = false → nameW (nums s) = false) := Lib.hid (fun h => by unfold nameW; rw [hst.out, h]; simp)
      have next : Hid (nmB k c = true → goB 0 (nums s) = goB (k + 1) ((nums s).drop (k + 1))) := Lib.hid (fun h => by rw [hst.out, h, Bool.true_and])
      clear hst hc
      have hcl : (c < 48) ∨ (48 ≤ c ∧ c ≤ 57) ∨ (57 < c ∧ c < 65) ∨ (65 ≤ c ∧ c ≤ 90) ∨ (c = 95) ∨ (90 < c ∧ c < 97 ∧ c ≠ 95) ∨ (97 ≤ c ∧ c ≤ 122) ∨ (122 < c) := by omega
      rcases hcl with hcl | hcl | hcl | hcl | hcl | hcl | hcl | hcl
      · have q95 : ((c : Int) == 95) = false := by simp; omega
        have q97 : decide ((97 : Int) ≤ c) = false := by simp; omega
        have q122 : decide ((c : Int) ≤ 122) = true := by simp; omega
        have q65 : decide ((65 : Int) ≤ c) = false := by simp; omega
        have q90 : decide ((c : Int) ≤ 90) = true := by simp; omega
        have q48 : decide ((c : Int) < 48) = true := by simp; omega
        have q57 : decide ((57 : Int) < c) = false := by simp; omega
        have p97 : ¬ 97 ≤ c := by omega
        have p122 : c ≤ 122 := by omega
        have p65 : ¬ 65 ≤ c := by omega
        have p90 : c ≤ 90 := by omega
        have p48 : c < 48 := by omega
        have p57 : ¬ 57 < c := by omega
        have e := Lib.hid (gone.out (by simp [nmB, letB]; omega))
        by_cases a5 : k = 0
        · subst a5
          clear hcl
          go_wp2
          go_ret
          exact ⟨ob_bool e.out.symm, HBW.out⟩
        · have d5 : ((k : Int) == 0) = false := by simp; omega
          clear hcl
          go_wp2
          go_ret
          exact ⟨ob_bool e.out.symm, HBW.out⟩
      · have q95 : ((c : Int) == 95) = false := by simp; omega
        have q97 : decide ((97 : Int) ≤ c) = false := by simp; omega
        have q122 : decide ((c : Int) ≤ 122) = true := by simp; omega
        have q65 : decide ((65 : Int) ≤ c) = false := by simp; omega
        have q90 : decide ((c : Int) ≤ 90) = true := by simp; omega
        have q48 : decide ((c : Int) < 48) = false := by simp; omega
        have q57 : decide ((57 : Int) < c) = false := by simp; omega
        have p97 : ¬ 97 ≤ c := by omega
        have p122 : c ≤ 122 := by omega
        have p65 : ¬ 65 ≤ c := by omega
        have p90 : c ≤ 90 := by omega
        have p48 : ¬ c < 48 := by omega
        have p57 : ¬ 57 < c := by omega
        by_cases a5 : k = 0
        · have e := Lib.hid (gone.out (by simp [nmB, letB]; omega))
          subst a5
          clear hcl
          go_wp2
          go_ret
          exact ⟨ob_bool e.out.symm, HBW.out⟩
        · have e := Lib.hid (next.out (by simp [nmB, letB]; omega))
          have d5 : ((k : Int) == 0) = false := by simp; omega
          clear hcl
          go_wp2
          go_round
          case rel => exact ⟨k + 1, by omega, by go_num, e⟩
          case measure => simp [intOf]; omega
      · have q95 : ((c : Int) == 95) = false := by simp; omega
        have q97 : decide ((97 : Int) ≤ c) = false := by simp; omega
        have q122 : decide ((c : Int) ≤ 122) = true := by simp; omega
        have q65 : decide ((65 : Int) ≤ c) = false := by simp; omega
        have q90 : decide ((c : Int) ≤ 90) = true := by simp; omega
        have q48 : decide ((c : Int) < 48) = false := by simp; omega
        have q57 : decide ((57 : Int) < c) = true := by simp; omega
        have p97 : ¬ 97 ≤ c := by omega
        have p122 : c ≤ 122 := by omega
        have p65 : ¬ 65 ≤ c := by omega
        have p90 : c ≤ 90 := by omega
        have p48 : ¬ c < 48 := by omega
        have p57 : 57 < c := by omega
        have e := Lib.hid (gone.out (by simp [nmB, letB]; omega))
        by_cases a5 : k = 0
        · subst a5
          clear hcl
          go_wp2
          go_ret
          exact ⟨ob_bool e.out.symm, HBW.out⟩
        · have d5 : ((k : Int) == 0) = false := by simp; omega
          clear hcl
          go_wp2
          go_ret
          exact ⟨ob_bool e.out.symm, HBW.out⟩
      · have q95 : ((c : Int) == 95) = false := by simp; omega
        have q97 : decide ((97 : Int) ≤ c) = false := by simp; omega
        have q122 : decide ((c : Int) ≤ 122) = true := by simp; omega
        have q65 : decide ((65 : Int) ≤ c) = true := by simp; omega
        have q90 : decide ((c : Int) ≤ 90) = true := by simp; omega
        have q48 : decide ((c : Int) < 48) = false := by simp; omega
        have q57 : decide ((57 : Int) < c) = true := by simp; omega
        have p97 : ¬ 97 ≤ c := by omega
        have p122 : c ≤ 122 := by omega
        have p65 : 65 ≤ c := by omega
        have p90 : c ≤ 90 := by omega
        have p48 : ¬ c < 48 := by omega
        have p57 : 57 < c := by omega
        have e := Lib.hid (next.out (by simp [nmB, letB]; omega))
        clear hcl
        go_wp2
        go_round
        case rel => exact ⟨k + 1, by omega, by go_num, e⟩
        case measure => simp [intOf]; omega
      · have q95 : ((c : Int) == 95) = true := by simp; omega
        have q97 : decide ((97 : Int) ≤ c) = false := by simp; omega
        have q122 : decide ((c : Int) ≤ 122) = true := by simp; omega
        have q65 : decide ((65 : Int) ≤ c) = true := by simp; omega
        have q90 : decide ((c : Int) ≤ 90) = false := by simp; omega
        have q48 : decide ((c : Int) < 48) = false := by simp; omega
        have q57 : decide ((57 : Int) < c) = true := by simp; omega
        have p97 : ¬ 97 ≤ c := by omega
        have p122 : c ≤ 122 := by omega
        have p65 : 65 ≤ c := by omega
        have p90 : ¬ c ≤ 90 := by omega
        have p48 : ¬ c < 48 := by omega
        have p57 : 57 < c := by omega
        have e := Lib.hid (next.out (by simp [nmB, letB]; omega))
        clear hcl
        go_wp2
        go_round
        case rel => exact ⟨k + 1, by omega, by go_num, e⟩
        case measure => simp [intOf]; omega
      · have q95 : ((c : Int) == 95) = false := by simp; omega
        have q97 : decide ((97 : Int) ≤ c) = false := by simp; omega
        have q122 : decide ((c : Int) ≤ 122) = true := by simp; omega
        have q65 : decide ((65 : Int) ≤ c) = true := by simp; omega
        have q90 : decide ((c : Int) ≤ 90) = false := by simp; omega
        have q48 : decide ((c : Int) < 48) = false := by simp; omega
        have q57 : decide ((57 : Int) < c) = true := by simp; omega
        have p97 : ¬ 97 ≤ c := by omega
        have p122 : c ≤ 122 := by omega
        have p65 : 65 ≤ c := by omega
        have p90 : ¬ c ≤ 90 := by omega
        have p48 : ¬ c < 48 := by omega
        have p57 : 57 < c := by omega
        have e := Lib.hid (gone.out (by simp [nmB, letB]; omega))
        by_cases a5 : k = 0
        · subst a5
          clear hcl
          go_wp2
          go_ret
          exact ⟨ob_bool e.out.symm, HBW.out⟩
        · have d5 : ((k : Int) == 0) = false := by simp; omega
          clear hcl
          go_wp2
          go_ret
          exact ⟨ob_bool e.out.symm, HBW.out⟩
      · have q95 : ((c : Int) == 95) = false := by simp; omega
        have q97 : decide ((97 : Int) ≤ c) = true := by simp; omega
        have q122 : decide ((c : Int) ≤ 122) = true := by simp; omega
        have q65 : decide ((65 : Int) ≤ c) = true := by simp; omega
        have q90 : decide ((c : Int) ≤ 90) = false := by simp; omega
        have q48 : decide ((c : Int) < 48) = false := by simp; omega
        have q57 : decide ((57 : Int) < c) = true := by simp; omega
        have p97 : 97 ≤ c := by omega
        have p122 : c ≤ 122 := by omega
        have p65 : 65 ≤ c := by omega
        have p90 : ¬ c ≤ 90 := by omega
        have p48 : ¬ c < 48 := by omega
        have p57 : 57 < c := by omega
        have e := Lib.hid (next.out (by simp [nmB, letB]; omega))
        clear hcl
        go_wp2
        go_round
        case rel => exact ⟨k + 1, by omega, by go_num, e⟩
        case measure => simp [intOf]; omega
      · have q95 : ((c : Int) == 95) = false := by simp; omega
        have q97 : decide ((97 : Int) ≤ c) = true := by simp; omega
        have q122 : decide ((c : Int) ≤ 122) = false := by simp; omega
        have q65 : decide ((65 : Int) ≤ c) = true := by simp; omega
        have q90 : decide ((c : Int) ≤ 90) = false := by simp; omega
        have q48 : decide ((c : Int) < 48) = false := by simp; omega
        have q57 : decide ((57 : Int) < c) = true := by simp; omega
        have p97 : 97 ≤ c := by omega
        have p122 : ¬ c ≤ 122 := by omega
        have p65 : 65 ≤ c := by omega
        have p90 : ¬ c ≤ 90 := by omega
        have p48 : ¬ c < 48 := by omega
        have p57 : 57 < c := by omega
        have e := Lib.hid (gone.out (by simp [nmB, letB]; omega))
        by_cases a5 : k = 0
        · subst a5
          clear hcl
          go_wp2
          go_ret
          exact ⟨ob_bool e.out.symm, HBW.out⟩
        · have d5 : ((k : Int) == 0) = false := by simp; omega
          clear hcl
          go_wp2
          go_ret
          exact ⟨ob_bool e.out.symm, HBW.out⟩
    · obtain rfl : k = s.size := by omega
      have e : Hid (decide (0 < s.size) = nameW (nums s)) := Lib.hid (by
        unfold nameW
        rw [hc.out, List.drop_eq_nil_of_le (by rw [HL.out]; exact Nat.le_refl _), goB, Bool.and_true]
        have := HL.out
        by_cases h0 : s.size = 0
        · have h1 : nums s = [] := List.eq_nil_of_length_eq_zero (by omega)
          simp [h0, h1]
        · have h1 : nums s ≠ [] := fun h => by rw [h] at this; simp at this; omega
          simp [h1, Nat.pos_of_ne_zero h0])
      go_wp2
      go_ret
      exact ⟨ob_bool e.out, HBW.out⟩
end Go.Proofs.YtopkcanfiefmaaaDoor
