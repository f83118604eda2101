/- Contracts of bytes.Equal and bytes.HasPrefix; what Decode and ObjOf answer. -/
import Derived.Test.YtgmpcdonmlhohaaOrE
import Derived.Test.YtgmpcdonmlhohaaObP
namespace Go.Proofs.Ytgmpcdonmlhohaa
open Go.RowKit
set_option maxHeartbeats 400000
set_option linter.unusedVariables false
set_option linter.unusedSimpArgs false
def encOb (p : Parts) : List Int := objI p.ws p.bs p.ws.length p.bs.length p.ns.length p.ds.length p.ns p.ds
/-- What Decode answers: the error, and what the object holds. -/
def signed (xs : List Int) : Prop := xs.take 3 = [82, 79, 49]
instance (xs : List Int) : Decidable (signed xs) := by unfold signed; infer_instance
/-- The errors' numbers: form, too short. -/
def decErr (form short : Int) (xs : List Int) : Int :=
  if signed xs then
    if (parts (some (xs.drop 3))).st = none then short
    else if errOb (parts (some (xs.drop 3))) = 0 ∧ encOb (parts (some (xs.drop 3))) = xs then 0 else form
  else form
def noParts : Parts := ⟨[], [], [], [], none⟩
def decParts (form short : Int) (xs : List Int) : Parts := if decErr form short xs = 0 then parts (some (xs.drop 3)) else noParts
theorem equal_any (A A' : Option Addr) (n c n' c' : Nat) (xs ys : List Int) (w : World) (B B' : Nat) (h : RB w B A n xs) (h' : RB w B' A' n' ys) :
    Calls Try.prog 47 #[.slice A n c, .slice A' n' c'] w fun e w' => e = .returned (.bool (decide (xs = ys))) ∧ w = w' := by
  have e1 := h.conv (P := Try.prog) c 35 9 5 Try.underlying35 Try.underlying5 Try.underlying9
  have e2 := h'.conv (P := Try.prog) c' 35 9 5 Try.underlying35 Try.underlying5 Try.underlying9
  have HB := Lib.hid (strOfNums_beq h.2 h'.2)
  go_enter Try.func47, Try.ntmps47
  go_wp2
  go_ret
  exact ⟨ob_bool HB.out, rfl⟩
theorem prefix_any (A A' : Option Addr) (n c c' : Nat) (xs : List Int) (w : World) (B B' : Nat) (h : RB w B A n xs) (h' : RB w B' A' 3 [82, 79, 49]) (hnc : n ≤ c) (hcm : c ≤ maxLen) :
    Calls Try.prog 39 #[.slice A n c, .slice A' 3 c'] w fun e w' => e = .returned (.bool (decide (signed xs))) ∧ w = w' := by
  have HL := Lib.hid h.len
  unfold maxLen at hcm
  by_cases hn : 3 ≤ n
  · have HE := Lib.hid (equal_any A A' 3 c 3 c' (xs.take 3) [82, 79, 49] w B B' (rb_take h hn) h')
    have hd : decide ((3 : Int) ≤ (n : Int)) = true := by simp; omega
    have hi3 : (3 : Int) ≤ n := by omega
    go_enter Try.func39, Try.ntmps39
    go_wp2_with (refine HE.out.mono ?_; rintro e w' ⟨rfl, rfl⟩)
    go_ret
    exact ⟨rfl, rfl⟩
  · have hd : decide ((3 : Int) ≤ (n : Int)) = false := by simp; omega
    have HF : Hid (decide (signed xs) = false) := Lib.hid (by
      have : ¬ signed xs := by
        unfold signed
        intro e
        have := congrArg List.length e
        simp [HL.out] at this
        omega
      simpa using this)
    go_enter Try.func39, Try.ntmps39
    go_wp2
    go_ret
    exact ⟨ob_bool HF.out.symm, rfl⟩
def DecP (w : World) (xs : List Int) (e : Ending) (w' : World) : Prop :=
  MadePost w (parts (some (xs.drop 3))).ws (parts (some (xs.drop 3))).bs (parts (some (xs.drop 3))).ns (parts (some (xs.drop 3))).ds (decErr 3 21 xs) e w'
theorem decP_bad {w w' : World} {xs : List Int} {E : Int} (h : decErr 3 21 xs = E) (hE : E ≠ 0) (hb : Below w.heap.size w w') : DecP w xs (.returned (.tuple #[.agg #[.slice none 0 0, .slice none 0 0, .slice none 0 0, .slice none 0 0], .int .i64 E])) w' := by
  unfold DecP; rw [h]; exact MadePost.bad hE hb
theorem dec_unsigned {xs : List Int} (h : ¬ signed xs) : decErr 3 21 xs = 3 := by unfold decErr; rw [if_neg h]
theorem dec_short {xs : List Int} (h : signed xs) (h1 : (parts (some (xs.drop 3))).st = none) : decErr 3 21 xs = 21 := by unfold decErr; rw [if_pos h, if_pos h1]
theorem dec_form {xs : List Int} (h : signed xs) (h1 : (parts (some (xs.drop 3))).st ≠ none) (h2 : ¬ (errOb (parts (some (xs.drop 3))) = 0 ∧ encOb (parts (some (xs.drop 3))) = xs)) : decErr 3 21 xs = 3 := by unfold decErr; rw [if_pos h, if_neg h1, if_neg h2]
theorem dec_ok {xs : List Int} (h : signed xs) (h1 : (parts (some (xs.drop 3))).st ≠ none) (h2 : errOb (parts (some (xs.drop 3))) = 0 ∧ encOb (parts (some (xs.drop 3))) = xs) : decErr 3 21 xs = 0 := by unfold decErr; rw [if_pos h, if_neg h1, if_pos h2]
end Go.Proofs.Ytgmpcdonmlhohaa
