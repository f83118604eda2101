/- load.four f17, the closure little f19, load.word f22, strings.trimRightByte f25, TrimRight f21 at one byte 0. -/
import Derived.Test.YtdgjcjhdclihpaaDoorLdA
import Derived.Laws.BitsAllLaws
namespace Go.Proofs.YtdgjcjhdclihpaaDoor
open Go.RowKit
set_option maxHeartbeats 400000
set_option linter.unusedVariables false
set_option linter.unusedSimpArgs false
theorem four_new (W : World) (w : Int) : Row (W.alloc (.cells #[.int .u8 (w % 256), .int .u8 (w / 256 % 256), .int .u8 (w / 65536 % 256), .int .u8 (w / 16777216 % 256)] 5)) W.heap.size 5 1 (.slice (some ⟨W.heap.size, 0, none⟩) 4 4) 4 ((four w).map (Value.int .u8)) := by
  refine ⟨rfl, .inr ⟨W.heap.size, 0, 4, _, rfl, Nat.le_refl _, Blk.new W _ 5, Nat.le_refl _, by decide, by simp, fun j u hu => ?_⟩⟩
  simp only [four, List.map_cons, List.map_nil] at hu
  rw [Nat.zero_add]
  simpa using hu
set_option maxRecDepth 100000 in
theorem four_any (w : Int) (W : World) (h0 : 0 ≤ w) (h1 : w < 4294967296) : Calls Tryd.prog 17 #[.int .u32 w] W (BsPost (four w) W) := by
  have e4 : w / 16777216 % 256 = w / 16777216 := by omega
  have hn := four_new W w
  rw [e4] at hn
  have HN := Lib.hid hn
  clear hn e4
  have w1 : IntKind.u8.wrap w = w % 256 := by rw [IntKind.wrap_u8]
  go_enter Tryd.func17, Tryd.ntmps17
  go_wp2
  go_ret
  exact ⟨some ⟨W.heap.size, 0, none⟩, 4, 4, rfl, rfl, HN.out, (Below.refl _ _).alloc (Nat.le_refl _) _⟩
theorem strN_take (xs : List Int) (k : Nat) : (strOfNums xs).extract 0 k = strOfNums (xs.take k) := by
  apply ByteArray.ext
  apply Array.toList_inj.1
  rw [ByteArray.data_extract, Array.toList_extract, strOfNums_data, strOfNums_data, List.extract_eq_take_drop]
  simp [List.map_take]
theorem strN_at {xs : List Int} (hb : Byt xs) {m : Nat} (h : m < (strOfNums xs).size) : (((strOfNums xs)[m]'h).toNat : Int) = xs.getD m 0 := by
  have hl : m < xs.length := by rw [strOfNums_size] at h; exact h
  have e1 : xs.getD m 0 = xs[m] := by simp [List.getD, List.getElem?_eq_getElem hl]
  have h2 := hb _ (List.getElem_mem hl)
  have e2 : (strOfNums xs)[m]'h = UInt8.ofNat (xs[m]).toNat := by
    show (strOfNums xs).data[m] = _
    rw [← Array.getElem_toList (h := by simpa using h)]
    simp [strOfNums_data]
  rw [e1, e2]
  simp
  omega
def szOf : Value → Nat
  | .string S => S.size
  | _ => 0
set_option maxHeartbeats 1000000 in
set_option maxRecDepth 100000 in
theorem trimByte_any (xs : List Int) (hb : Byt xs) (w : World) (hl : xs.length ≤ 9223372036854775807) : Calls Tryd.prog 25 #[.string (strOfNums xs), .int .u8 0] w fun e w' => e = .returned (.string (strOfNums (trim xs))) ∧ w' = w := by
  go_enter Tryd.func25, Tryd.ntmps25
  go_wp2_with fail
  go_loopw [0] (fun v wr => ∃ (m : Nat) (S : ByteArray), m ≤ xs.length ∧ v = .string S ∧ Hid (S = strOfNums (xs.take m)) ∧ Hid (tn xs xs.length = tn xs m) ∧ wr = w) (fun v _ => szOf v)
  case atStart => exact ⟨xs.length, _, Nat.le_refl _, rfl, Lib.hid (by rw [List.take_length]), Lib.hid rfl, rfl⟩
  case round =>
    obtain ⟨m, S, hm, rfl, hS, ht, rfl⟩ := hrel
    have hsz : S.size = m := by rw [hS.out, strOfNums_size]; simp; omega
    cases m with
    | zero =>
      have hz : S.size = 0 := hsz
      have HF : Hid (S = strOfNums (trim xs)) := Lib.hid (by rw [hS.out]; unfold trim; rw [ht.out]; rfl)
      go_wp2
      go_ret
      exact ⟨by rw [← HF.out]; rfl, rfl⟩
    | succ m =>
      have hlt : m < S.size := by omega
      have hx : ((S[m]'hlt).toNat : Int) = xs.getD m 0 := by
        have hbt : Byt (xs.take (m + 1)) := fun x hx => hb x (List.mem_of_mem_take hx)
        have hlt' : m < (strOfNums (xs.take (m + 1))).size := by rw [← hS.out]; exact hlt
        have h1 := strN_at hbt hlt'
        have h2 : (xs.take (m + 1)).getD m 0 = xs.getD m 0 := by simp [List.getD, List.getElem?_take]
        rw [h2] at h1
        rw [← h1]
        have : ∀ (S T : ByteArray) (e : S = T) (h : m < S.size) (h' : m < T.size), ((S[m]'h).toNat : Int) = ((T[m]'h').toNat : Int) := by
          intro S T e h h'; subst e; rfl
        exact this _ _ hS.out _ _
      by_cases h0 : xs.getD m 0 = 0
      · have hx0 : (S[m]'hlt).toNat = 0 := by omega
        have HT := Lib.hid (ht.out.trans (tn_zero h0))
        have HS : Hid (S.extract 0 m = strOfNums (xs.take m)) := Lib.hid (by rw [hS.out, strN_take, List.take_take]; congr 1; congr 1; omega)
        clear hS ht hx
        go_wp2
        go_roundw
        case rel => exact ⟨m, _, by omega, rfl, HS, HT, trivial⟩
        case measure => simp [szOf]; omega
      · have hx0 : (((S[m]'hlt).toNat : Int) == 0) = false := by simp; omega
        have HF : Hid (S = strOfNums (trim xs)) := Lib.hid (by rw [hS.out]; unfold trim; rw [ht.out, tn_some h0])
        clear hS ht hx
        go_wp2
        go_ret
        exact ⟨by rw [← HF.out]; rfl, rfl⟩
set_option maxHeartbeats 1000000 in
set_option maxRecDepth 100000 in
theorem trimRight_any (xs : List Int) (hb : Byt xs) (w : World) (hl : xs.length ≤ 9223372036854775807) : Calls Tryd.prog 21 #[.string (strOfNums xs), .string ⟨#[0]⟩] w fun e w' => e = .returned (.string (strOfNums (trim xs))) ∧ w' = w := by
  have HT := Lib.hid (trimByte_any xs hb w hl)
  by_cases h0 : xs.length = 0
  · obtain rfl : xs = [] := List.eq_nil_of_length_eq_zero h0
    have e0 : strOfNums ([] : List Int) = ⟨#[]⟩ := rfl
    have e1 : strOfNums (trim []) = ⟨#[]⟩ := rfl
    rw [e1, e0]
    clear HT e0 e1
    go_enter Tryd.func21, Tryd.ntmps21
    go_wp2
    go_ret
    exact ⟨rfl, rfl⟩
  · obtain ⟨S, hS⟩ : ∃ S, strOfNums xs = S := ⟨_, rfl⟩
    have hz : S.toList.isEmpty = false := by
      rw [← hS, strOfNums_toList]
      cases xs with
      | nil => exact absurd rfl h0
      | cons a l => rfl
    rw [hS] at HT ⊢
    go_enter Tryd.func21, Tryd.ntmps21
    go_wp2_with fail
    refine HT.out.mono ?_
    rintro e w1 ⟨rfl, rfl⟩
    go_wp2
    go_ret
    exact ⟨rfl, rfl⟩
end Go.Proofs.YtdgjcjhdclihpaaDoor
