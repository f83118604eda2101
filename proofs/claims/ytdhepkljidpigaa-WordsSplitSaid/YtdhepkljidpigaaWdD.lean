/- The sign that a text begins with, by its first bytes. -/
import Derived.Test.YtdhepkljidpigaaWdC
import Derived.Test.YtdhepkljidpigaaCn
namespace Go.Proofs.Ytdhepkljidpigaa
open Go.RowKit
set_option maxHeartbeats 400000
set_option linter.unusedVariables false
set_option linter.unusedSimpArgs false
def twoB (a b : UInt8) : Bool := (a == 38 && b == 38) || (a == 124 && b == 124) || (a == 62 && b == 62)
def oneB (a : UInt8) : Bool := a == 124 || a == 38 || a == 59 || a == 60 || a == 62 || a == 40 || a == 41
def sgn : List UInt8 → List UInt8
  | a :: b :: _ => if twoB a b = true then [a, b] else if oneB a = true then [a] else []
  | [a] => if oneB a = true then [a] else []
  | [] => []
theorem opS_sgn (s : ByteArray) : (opS s).data.toList = sgn s.data.toList := by
  unfold opS opF signsB pre
  generalize s.data.toList = l
  match l with
  | [] => rfl
  | [a] =>
    by_cases h124 : a = 124
    · subst h124; rfl
    by_cases h38 : a = 38
    · subst h38; rfl
    by_cases h59 : a = 59
    · subst h59; rfl
    by_cases h60 : a = 60
    · subst h60; rfl
    by_cases h62 : a = 62
    · subst h62; rfl
    by_cases h40 : a = 40
    · subst h40; rfl
    by_cases h41 : a = 41
    · subst h41; rfl
    have k124 : (((124 : UInt8) == a) = false) := beq_eq_false_iff_ne.2 (Ne.symm h124)
    have k38 : (((38 : UInt8) == a) = false) := beq_eq_false_iff_ne.2 (Ne.symm h38)
    have k59 : (((59 : UInt8) == a) = false) := beq_eq_false_iff_ne.2 (Ne.symm h59)
    have k60 : (((60 : UInt8) == a) = false) := beq_eq_false_iff_ne.2 (Ne.symm h60)
    have k62 : (((62 : UInt8) == a) = false) := beq_eq_false_iff_ne.2 (Ne.symm h62)
    have k40 : (((40 : UInt8) == a) = false) := beq_eq_false_iff_ne.2 (Ne.symm h40)
    have k41 : (((41 : UInt8) == a) = false) := beq_eq_false_iff_ne.2 (Ne.symm h41)
    simp [List.find?, Lib.hasPrefix, List.isPrefixOf, sgn, oneB, h124, h38, h59, h60, h62, h40, h41, k124, k38, k59, k60, k62, k40, k41]
  | a :: b :: r =>
    by_cases h124 : a = 124
    · subst h124
      by_cases g : b = 124
      · subst g; rfl
      · have g2 : (((124 : UInt8) == b) = false) := beq_eq_false_iff_ne.2 (Ne.symm g)
        simp [List.find?, Lib.hasPrefix, List.isPrefixOf, sgn, oneB, twoB, g, g2]
    by_cases h38 : a = 38
    · subst h38
      by_cases g : b = 38
      · subst g; rfl
      · have g2 : (((38 : UInt8) == b) = false) := beq_eq_false_iff_ne.2 (Ne.symm g)
        simp [List.find?, Lib.hasPrefix, List.isPrefixOf, sgn, oneB, twoB, g, g2]
    by_cases h59 : a = 59
    · subst h59; simp [List.find?, Lib.hasPrefix, List.isPrefixOf, sgn, oneB, twoB]
    by_cases h60 : a = 60
    · subst h60; simp [List.find?, Lib.hasPrefix, List.isPrefixOf, sgn, oneB, twoB]
    by_cases h62 : a = 62
    · subst h62
      by_cases g : b = 62
      · subst g; rfl
      · have g2 : (((62 : UInt8) == b) = false) := beq_eq_false_iff_ne.2 (Ne.symm g)
        simp [List.find?, Lib.hasPrefix, List.isPrefixOf, sgn, oneB, twoB, g, g2]
    by_cases h40 : a = 40
    · subst h40; simp [List.find?, Lib.hasPrefix, List.isPrefixOf, sgn, oneB, twoB]
    by_cases h41 : a = 41
    · subst h41; simp [List.find?, Lib.hasPrefix, List.isPrefixOf, sgn, oneB, twoB]
    have k124 : (((124 : UInt8) == a) = false) := beq_eq_false_iff_ne.2 (Ne.symm h124)
    have k38 : (((38 : UInt8) == a) = false) := beq_eq_false_iff_ne.2 (Ne.symm h38)
    have k59 : (((59 : UInt8) == a) = false) := beq_eq_false_iff_ne.2 (Ne.symm h59)
    have k60 : (((60 : UInt8) == a) = false) := beq_eq_false_iff_ne.2 (Ne.symm h60)
    have k62 : (((62 : UInt8) == a) = false) := beq_eq_false_iff_ne.2 (Ne.symm h62)
    have k40 : (((40 : UInt8) == a) = false) := beq_eq_false_iff_ne.2 (Ne.symm h40)
    have k41 : (((41 : UInt8) == a) = false) := beq_eq_false_iff_ne.2 (Ne.symm h41)
    simp [List.find?, Lib.hasPrefix, List.isPrefixOf, sgn, oneB, twoB, h124, h38, h59, h60, h62, h40, h41, k124, k38, k59, k60, k62, k40, k41]
end Go.Proofs.Ytdhepkljidpigaa
