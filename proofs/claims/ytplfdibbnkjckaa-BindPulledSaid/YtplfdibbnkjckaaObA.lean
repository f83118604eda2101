/- Contracts of asm.register, asm.Name and ringref4.AsmName. -/
import Derived.Test.YtplfdibbnkjckaaProg
import Derived.Test.YtplfdibbnkjckaaNear
import Derived.Test.YtplfdibbnkjckaaRecs
import Derived.Test.YtplfdibbnkjckaaOwn
import Derived.WalkSpells
import Derived.WalkLawsBesides
import Derived.Outline
import Derived.LoopTactic
import Derived.IntWalk
namespace Go.Proofs.Ytplfdibbnkjckaa
open Go.RowKit
set_option maxHeartbeats 400000
set_option linter.unusedVariables false
set_option linter.unusedSimpArgs false
theorem ob_bool {a b : Bool} (h : a = b) : Ending.returned (.bool a) = .returned (.bool b) := by rw [h]
theorem ob_int {k : IntKind} {a b : Int} (h : a = b) : Ending.returned (.int k a) = .returned (.int k b) := by rw [h]
/-- A text's bytes as numbers. -/
def nums (s : ByteArray) : List Nat := s.data.toList.map UInt8.toNat
theorem nums_len (s : ByteArray) : (nums s).length = s.size := by simp [nums]
theorem nums_at (s : ByteArray) (k : Nat) (h : k < s.size) : (nums s).getD k 0 = (s[k]).toNat := by
  have h' : k < s.data.toList.length := by simpa using h
  simp [nums, List.getD, List.getElem?_map, List.getElem?_eq_getElem h']
  rfl
theorem nums_lt (s : ByteArray) : ∀ c ∈ nums s, c < 256 := by
  intro c hc
  obtain ⟨u, _, rfl⟩ := List.mem_map.1 hc
  exact u.toNat_lt
def chB (i c : Nat) : Bool := (decide (97 ≤ c) && decide (c ≤ 122)) || decide (c = 95) || (decide (i ≠ 0) && decide (48 ≤ c) && decide (c ≤ 57))
def regB : List Nat → Bool
  | [a, b] => decide (a = 114 ∧ 48 ≤ b ∧ b < 56)
  | _ => false
def charsB : Nat → List Nat → Bool
  | _, [] => true
  | i, c :: cs => chB i c && charsB (i + 1) cs
def nameB (xs : List Nat) : Bool := decide (1 ≤ xs.length ∧ xs.length ≤ 12) && !regB xs && charsB 0 xs
theorem charsB_step {xs : List Nat} {k : Nat} (h : k < xs.length) : charsB k (xs.drop k) = (chB k (xs.getD k 0) && charsB (k + 1) (xs.drop (k + 1))) := by
  rw [List.drop_eq_getElem_cons h, charsB]
  simp [List.getD, List.getElem?_eq_getElem h]
theorem two_nums {s : ByteArray} (h : s.size = 2) : nums s = [(s[0]'(by omega)).toNat, (s[1]'(by omega)).toNat] := by
  have hl := nums_len s
  match hx : nums s, hl with
  | [a, b], _ =>
    have h0 := nums_at s 0 (by omega)
    have h1 := nums_at s 1 (by omega)
    rw [hx] at h0 h1
    simp at h0 h1
    rw [h0, h1]
  | [], hl => simp at hl; omega
  | [a], hl => simp at hl; omega
  | a :: b :: c :: l, hl => simp at hl; omega
theorem regB_not {s : ByteArray} (h : s.size ≠ 2) : regB (nums s) = false := by
  have hl := nums_len s
  match hx : nums s, hl with
  | [a, b], hl => simp at hl; omega
  | [], _ => rfl
  | [a], _ => rfl
  | a :: b :: c :: l, _ => rfl
def RegPost (xs : List Nat) (w : World) (e : Ending) (w' : World) : Prop := (∃ r : Int, e = .returned (.int .i64 r) ∧ (0 ≤ r ↔ regB xs = true)) ∧ w' = w
theorem register_any (s : ByteArray) (w : World) (hs : s.size ≤ 9223372036854775807) : Calls Try.prog 25 #[.string s] w (RegPost (nums s) w) := by
  by_cases h2 : s.size = 2
  · have hn := two_nums h2
    have k0 : 0 < s.size := by omega
    have k1 : 1 < s.size := by omega
    have l0 := (s[0]'k0).toNat_lt
    have l1 := (s[1]'k1).toNat_lt
    obtain ⟨a, ha⟩ : ∃ a, (s[0]'k0).toNat = a := ⟨_, rfl⟩
    obtain ⟨b, hb⟩ : ∃ b, (s[1]'k1).toNat = b := ⟨_, rfl⟩
    rw [ha, hb] at hn
    rw [ha] at l0
    rw [hb] at l1
    have HN := Lib.hid hn
    have d2 : ((s.size : Int) == 2) = true := by rw [h2]; rfl
    have g0 : (0 : Int) < s.size := by omega
    have g1 : (1 : Int) < s.size := by omega
    clear hn h2
    by_cases c1 : a = 114
    · subst c1
      by_cases c2 : 48 ≤ b
      · by_cases c3 : b < 56
        · have HR : Hid (regB (nums s) = true) := Lib.hid (by rw [HN.out]; simp [regB]; omega)
          go_enter Try.func25, Try.ntmps25
          go_wp2
          go_ret
          exact ⟨⟨_, rfl, by rw [HR.out]; simp; try omega⟩, rfl⟩
        · have HR : Hid (regB (nums s) = false) := Lib.hid (by rw [HN.out]; simp [regB]; omega)
          go_enter Try.func25, Try.ntmps25
          go_wp2
          go_ret
          exact ⟨⟨_, rfl, by rw [HR.out]; simp⟩, rfl⟩
      · have HR : Hid (regB (nums s) = false) := Lib.hid (by rw [HN.out]; simp [regB]; omega)
        go_enter Try.func25, Try.ntmps25
        go_wp2
        go_ret
        exact ⟨⟨_, rfl, by rw [HR.out]; simp⟩, rfl⟩
    · have HR : Hid (regB (nums s) = false) := Lib.hid (by rw [HN.out]; simp [regB]; omega)
      have e1 : ((a : Int) == 114) = false := by simp; omega
      clear c1
      go_enter Try.func25, Try.ntmps25
      go_wp2
      go_ret
      exact ⟨⟨_, rfl, by rw [HR.out]; simp⟩, rfl⟩
  · have HR := Lib.hid (regB_not h2)
    have d2 : ((s.size : Int) == 2) = false := by simp; omega
    go_enter Try.func25, Try.ntmps25
    go_wp2
    go_ret
    exact ⟨⟨_, rfl, by rw [HR.out]; simp⟩, rfl⟩
def NamePost (xs : List Nat) (w : World) (e : Ending) (w' : World) : Prop := e = .returned (.bool (nameB xs)) ∧ w' = w
theorem name_short {xs : List Nat} (h : ¬ (1 ≤ xs.length ∧ xs.length ≤ 12)) : nameB xs = false := by unfold nameB; rw [decide_eq_false h]; rfl
theorem name_reg {xs : List Nat} (h : regB xs = true) : nameB xs = false := by unfold nameB; rw [h]; simp
theorem name_chars {xs : List Nat} (h1 : 1 ≤ xs.length ∧ xs.length ≤ 12) (h : regB xs = false) : nameB xs = charsB 0 xs := by unfold nameB; rw [h, decide_eq_true h1]; rfl
set_option maxRecDepth 100000 in
theorem name_any (s : ByteArray) (w : World) (hs : s.size ≤ 9223372036854775807) : Calls Try.prog 21 #[.string s] w (NamePost (nums s) w) := by
  have hl := nums_len s
  by_cases h1 : s.size < 1
  · have HR := Lib.hid (name_short (xs := nums s) (by omega))
    have g0 : (s.size : Int) < 1 := by omega
    clear hl
    go_enter Try.func21, Try.ntmps21
    go_wp2
    go_ret
    exact ⟨ob_bool HR.out.symm, rfl⟩
  by_cases h2 : 12 < s.size
  · have HR := Lib.hid (name_short (xs := nums s) (by omega))
    have g0 : (12 : Int) < s.size := by omega
    clear hl
    go_enter Try.func21, Try.ntmps21
    go_wp2
    go_ret
    exact ⟨ob_bool HR.out.symm, rfl⟩
  by_cases h3 : regB (nums s) = true
  · have HR := Lib.hid (name_reg h3)
    have H3 := Lib.hid h3
    clear hl h3
    go_enter Try.func21, Try.ntmps21
    go_wp2_with fail
    refine (register_any s _ hs).mono ?_
    rintro e w' ⟨⟨r, rfl, hr⟩, rfl⟩
    have hr0 := hr.2 H3.out
    clear hr
    go_wp2
    go_ret
    exact ⟨ob_bool HR.out.symm, rfl⟩
  · have h3' : regB (nums s) = false := by simpa using h3
    have H3 := Lib.hid h3'
    have HC := Lib.hid (name_chars (xs := nums s) (by omega) h3')
    have HL := Lib.hid hl
    clear hl h3 h3'
    go_enter Try.func21, Try.ntmps21
    go_wp2_with fail
    refine (register_any s _ hs).mono ?_
    rintro e w' ⟨⟨r, rfl, hr⟩, rfl⟩
    have hr0 : r < 0 := by
      refine Classical.byContradiction fun h => ?_
      have := hr.1 (by omega)
      rw [H3.out] at this; cases this
    clear hr
    go_wp2
    go_loop [20] (fun i => ∃ k : Nat, k ≤ s.size ∧ i = .int .i64 k ∧ Hid (charsB 0 (nums s) = charsB k ((nums s).drop k))) (fun i => s.size - (intOf i).toNat)
    case atStart => exact ⟨0, by omega, rfl, Lib.hid rfl⟩
    case round =>
      obtain ⟨k, hk, rfl, hc⟩ := hrel
      by_cases hlt : k < s.size
      · have hst := Lib.hid (hc.out.trans (charsB_step (xs := nums s) (k := k) (by rw [HL.out]; exact hlt)))
        rw [nums_at s k hlt] at hst
        obtain ⟨c, hcc⟩ : ∃ c, (s[k]'hlt).toNat = c := ⟨_, rfl⟩
        have hc256 := (s[k]'hlt).toNat_lt
        rw [hcc] at hst hc256
        have hki : (k : Int) < s.size := by omega
        have gone : Hid (chB k c = false → nameB (nums s) = false) := Lib.hid (fun h => by rw [HC.out, hst.out, h]; rfl)
        have next : Hid (chB k c = true → charsB 0 (nums s) = charsB (k + 1) ((nums s).drop (k + 1))) := Lib.hid (fun h => by rw [hst.out, h, Bool.true_and])
        clear hst hc
        by_cases a1 : 97 ≤ c ∧ c ≤ 122
        · have e := Lib.hid (next.out (by simp [chB]; omega))
          obtain ⟨a2, a3⟩ := a1
          go_wp2
          go_round
          case rel => exact ⟨k + 1, by omega, by go_num, e⟩
          case measure => simp [intOf]; omega
        · by_cases a4 : c = 95
          · have e := Lib.hid (next.out (by simp [chB]; omega))
            subst a4
            clear a1
            go_wp2
            go_round
            case rel => exact ⟨k + 1, by omega, by go_num, e⟩
            case measure => simp [intOf]; omega
          · have d4 : ((c : Int) != 95) = true := by simp; omega
            by_cases a5 : k = 0
            · have e := Lib.hid (gone.out (by simp [chB]; omega))
              subst a5
              clear a4
              by_cases b1 : c < 97
              · go_wp2
                go_ret
                exact ⟨ob_bool e.out.symm, rfl⟩
              · have b2 : 122 < c := by omega
                go_wp2
                go_ret
                exact ⟨ob_bool e.out.symm, rfl⟩
            · have d5 : ((k : Int) == 0) = false := by simp; omega
              by_cases a6 : 48 ≤ c ∧ c ≤ 57
              · have e := Lib.hid (next.out (by simp [chB]; omega))
                obtain ⟨a7, a8⟩ := a6
                have b1 : c < 97 := by omega
                clear a1 a4 a5
                go_wp2
                go_round
                case rel => exact ⟨k + 1, by omega, by go_num, e⟩
                case measure => simp [intOf]; omega
              · have e := Lib.hid (gone.out (by simp [chB]; omega))
                clear a4 a5
                by_cases b1 : c < 97
                · by_cases b2 : c < 48
                  · go_wp2
                    go_ret
                    exact ⟨ob_bool e.out.symm, rfl⟩
                  · have b3 : 57 < c := by omega
                    go_wp2
                    go_ret
                    exact ⟨ob_bool e.out.symm, rfl⟩
                · have b2 : 122 < c := by omega
                  have b3 : ¬ c < 48 := by omega
                  have b4 : 57 < c := by omega
                  go_wp2
                  go_ret
                  exact ⟨ob_bool e.out.symm, rfl⟩
      · obtain rfl : k = s.size := by omega
        have e : Hid (nameB (nums s) = true) := Lib.hid (by rw [HC.out, hc.out, List.drop_eq_nil_of_le (by rw [HL.out]; exact Nat.le_refl _)]; rfl)
        go_wp2
        go_ret
        exact ⟨ob_bool e.out.symm, rfl⟩
theorem less_two (a b x y : UInt8) : Op.bytesLess [a, b] [x, y] = (decide (a.toNat < x.toNat) || (decide (a.toNat = x.toNat) && decide (b.toNat < y.toNat))) := by
  have e : ∀ p q : UInt8, (p == q) = decide (p.toNat = q.toNat) := fun p q => by
    rw [Bool.eq_iff_iff]; simp [UInt8.toNat_inj]
  have f : ∀ p q : UInt8, (decide (p < q)) = decide (p.toNat < q.toNat) := fun p q => rfl
  simp [Op.bytesLess, e, UInt8.lt_iff_toNat_lt]
theorem list_two {s : ByteArray} (h : s.size = 2) : s.toList = [s[0]'(by omega), s[1]'(by omega)] := by
  rw [ByteArray.toList_eq]
  have hl : s.data.toList.length = 2 := by simpa using h
  match hx : s.data.toList, hl with
  | [a, b], _ =>
    have h0 : s[0]'(by omega) = a := by
      have : s.data.toList[0]? = some a := by rw [hx]; rfl
      have h' : 0 < s.data.toList.length := by omega
      rw [List.getElem?_eq_getElem h'] at this
      simp at this
      exact this
    have h1 : s[1]'(by omega) = b := by
      have : s.data.toList[1]? = some b := by rw [hx]; rfl
      have h' : 1 < s.data.toList.length := by omega
      rw [List.getElem?_eq_getElem h'] at this
      simp at this
      exact this
    rw [h0, h1]
theorem bool_reg (x y : Nat) : ((!(decide (x < 114) || (decide (x = 114) && decide (y < 48)))) && ((decide (x < 114) || (decide (x = 114) && decide (y < 55))) || decide (x = 114 ∧ y = 55))) = decide (x = 114 ∧ 48 ≤ y ∧ y < 56) := by
  rcases Nat.lt_trichotomy x 114 with h | h | h
  · rw [decide_eq_true h, decide_eq_false (p := x = 114 ∧ 48 ≤ y ∧ y < 56) (by omega)]; rfl
  · rw [decide_eq_false (p := x < 114) (by omega), decide_eq_true h]
    by_cases h1 : y < 48
    · rw [decide_eq_true h1, decide_eq_false (p := x = 114 ∧ 48 ≤ y ∧ y < 56) (by omega)]; rfl
    · rw [decide_eq_false h1]
      by_cases h2 : y < 55
      · rw [decide_eq_true h2, decide_eq_true (p := x = 114 ∧ 48 ≤ y ∧ y < 56) (by omega)]; rfl
      · rw [decide_eq_false h2]
        by_cases h3 : y = 55
        · rw [decide_eq_true (p := x = 114 ∧ y = 55) (by omega), decide_eq_true (p := x = 114 ∧ 48 ≤ y ∧ y < 56) (by omega)]; rfl
        · rw [decide_eq_false (p := x = 114 ∧ y = 55) (by omega), decide_eq_false (p := x = 114 ∧ 48 ≤ y ∧ y < 56) (by omega)]; rfl
  · rw [decide_eq_false (p := x < 114) (by omega), decide_eq_false (p := x = 114) (by omega), decide_eq_false (p := x = 114 ∧ y = 55) (by omega), decide_eq_false (p := x = 114 ∧ 48 ≤ y ∧ y < 56) (by omega)]; rfl
theorem reg_text {s : ByteArray} (h : s.size = 2) : ((!Op.bytesLess s.toList [114, 48]) && (Op.bytesLess s.toList [114, 55] || s.toList == [114, 55])) = regB (nums s) := by
  rw [two_nums h, list_two h, less_two, less_two]
  generalize s[0] = a
  generalize s[1] = b
  have e : ([a, b] == [114, 55]) = decide (a.toNat = 114 ∧ b.toNat = 55) := by
    rw [Bool.eq_iff_iff]
    simp [← UInt8.toNat_inj]
  have k1 : (114 : UInt8).toNat = 114 := rfl
  have k2 : (48 : UInt8).toNat = 48 := rfl
  have k3 : (55 : UInt8).toNat = 55 := rfl
  rw [e, k1, k2, k3]
  exact bool_reg _ _
theorem empty_text {s : ByteArray} : (s.toList == []) = decide (s.size = 0) := by
  rw [ByteArray.toList_eq, Bool.eq_iff_iff]
  have h : s.data.toList.length = s.size := by simp
  simp only [beq_iff_eq, decide_eq_true_eq]
  constructor
  · intro e; rw [e] at h; exact h.symm
  · intro e; rw [e] at h; exact List.eq_nil_of_length_eq_zero h
theorem nums_lt' (s : ByteArray) (k : Nat) : (nums s).getD k 0 < 256 := by
  by_cases h : k < (nums s).length
  · have := nums_lt s _ (List.getElem_mem h)
    simpa [List.getD, List.getElem?_eq_getElem h] using this
  · simp [List.getD, List.getElem?_eq_none (by omega : (nums s).length ≤ k)]
theorem bytes_cell (w : World) (s : ByteArray) {k : Nat} (h : k < s.size) : (Lib.bytesWorld w 5 s).cell? ⟨w.heap.size, k, none⟩ = some (.int .u8 ((nums s).getD k 0)) := by
  rw [Lib.bytesWorld_cell w 5 s k h, nums_at s k h]
  simp [List.getD, h]
  rfl
set_option maxHeartbeats 4000000 in
set_option maxRecDepth 100000 in
theorem asmName_any (s : ByteArray) (w : World) (hs : s.size ≤ 9223372036854775807) : Calls Try.prog 23 #[.string s] w (fun e w' => e = .returned (.bool (nameB (nums s))) ∧ Below w.heap.size w w') := by
  have hl := nums_len s
  have he := empty_text (s := s)
  by_cases h1 : s.size < 1
  · have HR := Lib.hid (name_short (xs := nums s) (by omega))
    rw [decide_eq_true (by omega)] at he
    clear hl
    go_enter Try.func23, Try.ntmps23
    go_wp2
    go_ret
    exact ⟨ob_bool HR.out.symm, Below.refl _ _⟩
  rw [decide_eq_false (by omega)] at he
  by_cases h2 : 12 < s.size
  · have HR := Lib.hid (name_short (xs := nums s) (by omega))
    have g0 : (12 : Int) < s.size := by omega
    clear hl
    go_enter Try.func23, Try.ntmps23
    go_wp2
    go_ret
    exact ⟨ob_bool HR.out.symm, Below.refl _ _⟩
  have hc1 : 1 ≤ s.size ∧ s.size ≤ 12 := by omega
  have HL := Lib.hid hl
  have HC : regB (nums s) = false → nameB (nums s) = charsB 0 (nums s) := fun h => name_chars (xs := nums s) (by omega) h
  have HC := Lib.hid HC
  have hsb := fun W s => Lib.run_convert_string_bytes (P := Try.prog) W 9 33 5 s Try.underlying9 Try.underlying33 Try.underlying5
  by_cases h3 : s.size = 2
  · have ht := reg_text h3
    cases hr : regB (nums s) with
    | true =>
    have HR := Lib.hid (name_reg hr)
    rw [hr, Bool.and_eq_true] at ht
    obtain ⟨t1, t2⟩ := ht
    have d3 : ((s.size : Int) == 2) = true := by rw [h3]; rfl
    simp only [Bool.not_eq_true', Bool.or_eq_true] at t1 t2
    have t1' := t1
    clear hl hr h3
    rcases t2 with t2 | t2
    · go_enter Try.func23, Try.ntmps23
      go_wp2
      go_ret
      exact ⟨ob_bool HR.out.symm, Below.refl _ _⟩
    · go_enter Try.func23, Try.ntmps23
      go_wp2
      go_ret
      exact ⟨ob_bool HR.out.symm, Below.refl _ _⟩
    | false =>
    have HCC := Lib.hid (HC.out hr)
    rw [hr, Bool.and_eq_false_iff] at ht
    have d3 : ((s.size : Int) == 2) = true := by rw [h3]; rfl
    simp only [Bool.not_eq_false', Bool.or_eq_false_iff] at ht
    clear hl hr h3
    rcases ht with t1 | ⟨t2, t3⟩
    · as_aux_lemma =>
        go_enter Try.func23, Try.ntmps23
        go_wp2
        go_loop [30] (fun i => ∃ k : Nat, k ≤ s.size ∧ i = .int .i64 k ∧ Hid (charsB 0 (nums s) = charsB k ((nums s).drop k))) (fun i => s.size - (intOf i).toNat)
        case atStart => exact ⟨0, by omega, rfl, Lib.hid rfl⟩
        case round =>
          obtain ⟨k, hk, rfl, hc⟩ := hrel
          by_cases hlt : k < s.size
          · have hst := Lib.hid (hc.out.trans (charsB_step (xs := nums s) (k := k) (by rw [HL.out]; exact hlt)))
            have hcell := bytes_cell w s hlt
            have hc256 := nums_lt' s k
            generalize (nums s).getD k 0 = c at *
            have hki : (k : Int) < s.size := by omega
            have gone : Hid (chB k c = false → nameB (nums s) = false) := Lib.hid (fun h => by rw [HCC.out, hst.out, h]; rfl)
            have next : Hid (chB k c = true → charsB 0 (nums s) = charsB (k + 1) ((nums s).drop (k + 1))) := Lib.hid (fun h => by rw [hst.out, h, Bool.true_and])
            clear hst hc
            by_cases a4 : c = 95
            · have e := Lib.hid (next.out (by simp [chB]; omega))
              subst a4
              go_wp2
              go_round
              case rel => exact ⟨k + 1, by omega, by go_num, e⟩
              case measure => simp [intOf]; omega
            have d4 : ((c : Int) == 95) = false := by simp; omega
            by_cases a1 : 97 ≤ c ∧ c ≤ 122
            · have e := Lib.hid (next.out (by simp [chB]; omega))
              obtain ⟨a2, a3⟩ := a1
              have b9 : 48 ≤ c := by omega
              have b8 : ¬ c ≤ 57 := by omega
              clear a4
              go_wp2
              go_round
              case rel => exact ⟨k + 1, by omega, by go_num, e⟩
              case measure => simp [intOf]; omega
            by_cases a6 : 48 ≤ c ∧ c ≤ 57
            · have b1 : ¬ 97 ≤ c := by omega
              by_cases a5 : k = 0
              · have e := Lib.hid (gone.out (by simp [chB]; omega))
                subst a5
                obtain ⟨a7, a8⟩ := a6
                clear a1 a4
                go_wp2
                go_ret
                exact ⟨ob_bool e.out.symm, below_bytes w 5 s⟩
              · have e := Lib.hid (next.out (by simp [chB]; omega))
                have d5 : ((k : Int) == 0) = false := by simp; omega
                obtain ⟨a7, a8⟩ := a6
                clear a1 a4 a5
                go_wp2
                go_round
                case rel => exact ⟨k + 1, by omega, by go_num, e⟩
                case measure => simp [intOf]; omega
            have e := Lib.hid (gone.out (by simp [chB]; omega))
            clear a4
            by_cases b1 : 97 ≤ c
            · have b2 : decide ((c : Int) ≤ 122) = false := by simp; omega
              have b3 : 48 ≤ c := by omega
              have b4 : ¬ c ≤ 57 := by omega
              clear a1 a6
              go_wp2
              go_ret
              exact ⟨ob_bool e.out.symm, below_bytes w 5 s⟩
            by_cases b3 : 48 ≤ c
            · have b4 : ¬ c ≤ 57 := by omega
              clear a1 a6
              go_wp2
              go_ret
              exact ⟨ob_bool e.out.symm, below_bytes w 5 s⟩
            clear a1 a6
            go_wp2
            go_ret
            exact ⟨ob_bool e.out.symm, below_bytes w 5 s⟩
          · obtain rfl : k = s.size := by omega
            have e : Hid (nameB (nums s) = true) := Lib.hid (by rw [HCC.out, hc.out, List.drop_eq_nil_of_le (by rw [HL.out]; exact Nat.le_refl _)]; rfl)
            go_wp2
            go_ret
            exact ⟨ob_bool e.out.symm, below_bytes w 5 s⟩
    · cases t1 : Op.bytesLess s.toList [114, 48] with
      | true =>
        as_aux_lemma =>
          go_enter Try.func23, Try.ntmps23
          go_wp2
          go_loop [30] (fun i => ∃ k : Nat, k ≤ s.size ∧ i = .int .i64 k ∧ Hid (charsB 0 (nums s) = charsB k ((nums s).drop k))) (fun i => s.size - (intOf i).toNat)
          case atStart => exact ⟨0, by omega, rfl, Lib.hid rfl⟩
          case round =>
            obtain ⟨k, hk, rfl, hc⟩ := hrel
            by_cases hlt : k < s.size
            · have hst := Lib.hid (hc.out.trans (charsB_step (xs := nums s) (k := k) (by rw [HL.out]; exact hlt)))
              have hcell := bytes_cell w s hlt
              have hc256 := nums_lt' s k
              generalize (nums s).getD k 0 = c at *
              have hki : (k : Int) < s.size := by omega
              have gone : Hid (chB k c = false → nameB (nums s) = false) := Lib.hid (fun h => by rw [HCC.out, hst.out, h]; rfl)
              have next : Hid (chB k c = true → charsB 0 (nums s) = charsB (k + 1) ((nums s).drop (k + 1))) := Lib.hid (fun h => by rw [hst.out, h, Bool.true_and])
              clear hst hc
              by_cases a4 : c = 95
              · have e := Lib.hid (next.out (by simp [chB]; omega))
                subst a4
                go_wp2
                go_round
                case rel => exact ⟨k + 1, by omega, by go_num, e⟩
                case measure => simp [intOf]; omega
              have d4 : ((c : Int) == 95) = false := by simp; omega
              by_cases a1 : 97 ≤ c ∧ c ≤ 122
              · have e := Lib.hid (next.out (by simp [chB]; omega))
                obtain ⟨a2, a3⟩ := a1
                have b9 : 48 ≤ c := by omega
                have b8 : ¬ c ≤ 57 := by omega
                clear a4
                go_wp2
                go_round
                case rel => exact ⟨k + 1, by omega, by go_num, e⟩
                case measure => simp [intOf]; omega
              by_cases a6 : 48 ≤ c ∧ c ≤ 57
              · have b1 : ¬ 97 ≤ c := by omega
                by_cases a5 : k = 0
                · have e := Lib.hid (gone.out (by simp [chB]; omega))
                  subst a5
                  obtain ⟨a7, a8⟩ := a6
                  clear a1 a4
                  go_wp2
                  go_ret
                  exact ⟨ob_bool e.out.symm, below_bytes w 5 s⟩
                · have e := Lib.hid (next.out (by simp [chB]; omega))
                  have d5 : ((k : Int) == 0) = false := by simp; omega
                  obtain ⟨a7, a8⟩ := a6
                  clear a1 a4 a5
                  go_wp2
                  go_round
                  case rel => exact ⟨k + 1, by omega, by go_num, e⟩
                  case measure => simp [intOf]; omega
              have e := Lib.hid (gone.out (by simp [chB]; omega))
              clear a4
              by_cases b1 : 97 ≤ c
              · have b2 : decide ((c : Int) ≤ 122) = false := by simp; omega
                have b3 : 48 ≤ c := by omega
                have b4 : ¬ c ≤ 57 := by omega
                clear a1 a6
                go_wp2
                go_ret
                exact ⟨ob_bool e.out.symm, below_bytes w 5 s⟩
              by_cases b3 : 48 ≤ c
              · have b4 : ¬ c ≤ 57 := by omega
                clear a1 a6
                go_wp2
                go_ret
                exact ⟨ob_bool e.out.symm, below_bytes w 5 s⟩
              clear a1 a6
              go_wp2
              go_ret
              exact ⟨ob_bool e.out.symm, below_bytes w 5 s⟩
            · obtain rfl : k = s.size := by omega
              have e : Hid (nameB (nums s) = true) := Lib.hid (by rw [HCC.out, hc.out, List.drop_eq_nil_of_le (by rw [HL.out]; exact Nat.le_refl _)]; rfl)
              go_wp2
              go_ret
              exact ⟨ob_bool e.out.symm, below_bytes w 5 s⟩
      | false =>
        as_aux_lemma =>
          go_enter Try.func23, Try.ntmps23
          go_wp2
          go_loop [30] (fun i => ∃ k : Nat, k ≤ s.size ∧ i = .int .i64 k ∧ Hid (charsB 0 (nums s) = charsB k ((nums s).drop k))) (fun i => s.size - (intOf i).toNat)
          case atStart => exact ⟨0, by omega, rfl, Lib.hid rfl⟩
          case round =>
            obtain ⟨k, hk, rfl, hc⟩ := hrel
            by_cases hlt : k < s.size
            · have hst := Lib.hid (hc.out.trans (charsB_step (xs := nums s) (k := k) (by rw [HL.out]; exact hlt)))
              have hcell := bytes_cell w s hlt
              have hc256 := nums_lt' s k
              generalize (nums s).getD k 0 = c at *
              have hki : (k : Int) < s.size := by omega
              have gone : Hid (chB k c = false → nameB (nums s) = false) := Lib.hid (fun h => by rw [HCC.out, hst.out, h]; rfl)
              have next : Hid (chB k c = true → charsB 0 (nums s) = charsB (k + 1) ((nums s).drop (k + 1))) := Lib.hid (fun h => by rw [hst.out, h, Bool.true_and])
              clear hst hc
              by_cases a4 : c = 95
              · have e := Lib.hid (next.out (by simp [chB]; omega))
                subst a4
                go_wp2
                go_round
                case rel => exact ⟨k + 1, by omega, by go_num, e⟩
                case measure => simp [intOf]; omega
              have d4 : ((c : Int) == 95) = false := by simp; omega
              by_cases a1 : 97 ≤ c ∧ c ≤ 122
              · have e := Lib.hid (next.out (by simp [chB]; omega))
                obtain ⟨a2, a3⟩ := a1
                have b9 : 48 ≤ c := by omega
                have b8 : ¬ c ≤ 57 := by omega
                clear a4
                go_wp2
                go_round
                case rel => exact ⟨k + 1, by omega, by go_num, e⟩
                case measure => simp [intOf]; omega
              by_cases a6 : 48 ≤ c ∧ c ≤ 57
              · have b1 : ¬ 97 ≤ c := by omega
                by_cases a5 : k = 0
                · have e := Lib.hid (gone.out (by simp [chB]; omega))
                  subst a5
                  obtain ⟨a7, a8⟩ := a6
                  clear a1 a4
                  go_wp2
                  go_ret
                  exact ⟨ob_bool e.out.symm, below_bytes w 5 s⟩
                · have e := Lib.hid (next.out (by simp [chB]; omega))
                  have d5 : ((k : Int) == 0) = false := by simp; omega
                  obtain ⟨a7, a8⟩ := a6
                  clear a1 a4 a5
                  go_wp2
                  go_round
                  case rel => exact ⟨k + 1, by omega, by go_num, e⟩
                  case measure => simp [intOf]; omega
              have e := Lib.hid (gone.out (by simp [chB]; omega))
              clear a4
              by_cases b1 : 97 ≤ c
              · have b2 : decide ((c : Int) ≤ 122) = false := by simp; omega
                have b3 : 48 ≤ c := by omega
                have b4 : ¬ c ≤ 57 := by omega
                clear a1 a6
                go_wp2
                go_ret
                exact ⟨ob_bool e.out.symm, below_bytes w 5 s⟩
              by_cases b3 : 48 ≤ c
              · have b4 : ¬ c ≤ 57 := by omega
                clear a1 a6
                go_wp2
                go_ret
                exact ⟨ob_bool e.out.symm, below_bytes w 5 s⟩
              clear a1 a6
              go_wp2
              go_ret
              exact ⟨ob_bool e.out.symm, below_bytes w 5 s⟩
            · obtain rfl : k = s.size := by omega
              have e : Hid (nameB (nums s) = true) := Lib.hid (by rw [HCC.out, hc.out, List.drop_eq_nil_of_le (by rw [HL.out]; exact Nat.le_refl _)]; rfl)
              go_wp2
              go_ret
              exact ⟨ob_bool e.out.symm, below_bytes w 5 s⟩
  · have d3 : ((s.size : Int) == 2) = false := by simp; omega
    have hr := regB_not h3
    have HCC := Lib.hid (HC.out hr)
    clear hr h3 hl
    go_enter Try.func23, Try.ntmps23
    go_wp2
    go_loop [30] (fun i => ∃ k : Nat, k ≤ s.size ∧ i = .int .i64 k ∧ Hid (charsB 0 (nums s) = charsB k ((nums s).drop k))) (fun i => s.size - (intOf i).toNat)
    case atStart => exact ⟨0, by omega, rfl, Lib.hid rfl⟩
    case round =>
      obtain ⟨k, hk, rfl, hc⟩ := hrel
      by_cases hlt : k < s.size
      · have hst := Lib.hid (hc.out.trans (charsB_step (xs := nums s) (k := k) (by rw [HL.out]; exact hlt)))
        have hcell := bytes_cell w s hlt
        have hc256 := nums_lt' s k
        generalize (nums s).getD k 0 = c at *
        have hki : (k : Int) < s.size := by omega
        have gone : Hid (chB k c = false → nameB (nums s) = false) := Lib.hid (fun h => by rw [HCC.out, hst.out, h]; rfl)
        have next : Hid (chB k c = true → charsB 0 (nums s) = charsB (k + 1) ((nums s).drop (k + 1))) := Lib.hid (fun h => by rw [hst.out, h, Bool.true_and])
        clear hst hc
        by_cases a4 : c = 95
        · have e := Lib.hid (next.out (by simp [chB]; omega))
          subst a4
          go_wp2
          go_round
          case rel => exact ⟨k + 1, by omega, by go_num, e⟩
          case measure => simp [intOf]; omega
        have d4 : ((c : Int) == 95) = false := by simp; omega
        by_cases a1 : 97 ≤ c ∧ c ≤ 122
        · have e := Lib.hid (next.out (by simp [chB]; omega))
          obtain ⟨a2, a3⟩ := a1
          have b9 : 48 ≤ c := by omega
          have b8 : ¬ c ≤ 57 := by omega
          clear a4
          go_wp2
          go_round
          case rel => exact ⟨k + 1, by omega, by go_num, e⟩
          case measure => simp [intOf]; omega
        by_cases a6 : 48 ≤ c ∧ c ≤ 57
        · have b1 : ¬ 97 ≤ c := by omega
          by_cases a5 : k = 0
          · have e := Lib.hid (gone.out (by simp [chB]; omega))
            subst a5
            obtain ⟨a7, a8⟩ := a6
            clear a1 a4
            go_wp2
            go_ret
            exact ⟨ob_bool e.out.symm, below_bytes w 5 s⟩
          · have e := Lib.hid (next.out (by simp [chB]; omega))
            have d5 : ((k : Int) == 0) = false := by simp; omega
            obtain ⟨a7, a8⟩ := a6
            clear a1 a4 a5
            go_wp2
            go_round
            case rel => exact ⟨k + 1, by omega, by go_num, e⟩
            case measure => simp [intOf]; omega
        have e := Lib.hid (gone.out (by simp [chB]; omega))
        clear a4
        by_cases b1 : 97 ≤ c
        · have b2 : decide ((c : Int) ≤ 122) = false := by simp; omega
          have b3 : 48 ≤ c := by omega
          have b4 : ¬ c ≤ 57 := by omega
          clear a1 a6
          go_wp2
          go_ret
          exact ⟨ob_bool e.out.symm, below_bytes w 5 s⟩
        by_cases b3 : 48 ≤ c
        · have b4 : ¬ c ≤ 57 := by omega
          clear a1 a6
          go_wp2
          go_ret
          exact ⟨ob_bool e.out.symm, below_bytes w 5 s⟩
        clear a1 a6
        go_wp2
        go_ret
        exact ⟨ob_bool e.out.symm, below_bytes w 5 s⟩
      · obtain rfl : k = s.size := by omega
        have e : Hid (nameB (nums s) = true) := Lib.hid (by rw [HCC.out, hc.out, List.drop_eq_nil_of_le (by rw [HL.out]; exact Nat.le_refl _)]; rfl)
        go_wp2
        go_ret
        exact ⟨ob_bool e.out.symm, below_bytes w 5 s⟩
end Go.Proofs.Ytplfdibbnkjckaa
