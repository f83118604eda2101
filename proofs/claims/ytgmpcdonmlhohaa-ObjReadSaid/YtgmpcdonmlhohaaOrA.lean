/- Reading an object's bytes, as a function of lists: the reader's steps, the loops, and what is read. -/
import Derived.Test.YtgmpcdonmlhohaaObD
namespace Go.Proofs.Ytgmpcdonmlhohaa
open Go.RowKit
set_option maxHeartbeats 400000
set_option linter.unusedVariables false
set_option linter.unusedSimpArgs false
/-- What is left to be read; none: there was too little. -/
abbrev Rst := Option (List Int)
/-- Half of a word. -/
def halfR : Rst → Int × Rst
  | none => (0, none)
  | some xs => if xs.length < 2 then (0, none) else (xs.getD 0 0 + 256 * xs.getD 1 0, some (xs.drop 2))
/-- A text with its length ahead. -/
def textR : Rst → ByteArray × Rst
  | none => (ByteArray.empty, none)
  | some xs => if xs.length < 1 then (ByteArray.empty, none) else if (xs.drop 1).length < (xs.getD 0 0).toNat then (ByteArray.empty, none) else (strOfNums ((xs.drop 1).take (xs.getD 0 0).toNat), some ((xs.drop 1).drop (xs.getD 0 0).toNat))
/-- So many bytes. -/
def bytesR (n : Int) : Rst → List Int × Rst
  | none => ([], none)
  | some xs => if (xs.length : Int) < n then ([], none) else (xs.take n.toNat, some (xs.drop n.toNat))
def wordR (s : Rst) : Int × Rst := ((halfR s).1 + 65536 * (halfR (halfR s).2).1, (halfR (halfR s).2).2)
def nmR (s : Rst) : Nm × Rst := (⟨(textR s).1, (halfR (textR s).2).1 % 4, (halfR (halfR (textR s).2).2).1, decide (4 ≤ (halfR (textR s).2).1)⟩, (halfR (halfR (textR s).2).2).2)
def ndR (s : Rst) : Nd × Rst := (⟨(halfR (halfR (textR s).2).2).1, (textR s).1, (halfR (textR s).2).1⟩, (halfR (halfR (textR s).2).2).2)
/-- n things, one after the other, till there is too little. -/
def loopR {α : Type} (f : Rst → α × Rst) : Nat → Rst → List α → List α × Rst
  | 0, s, acc => (acc, s)
  | n + 1, none, acc => (acc, none)
  | n + 1, some xs, acc => loopR f n (f (some xs)).2 (acc ++ [(f (some xs)).1])
def manyR {α : Type} (f : Rst → α × Rst) (s : Rst) : List α × Rst := loopR f (halfR s).1.toNat (halfR s).2 []
theorem loopR_none {α : Type} (f : Rst → α × Rst) (n : Nat) (acc : List α) : loopR f n none acc = (acc, none) := by cases n <;> rfl
/-- All parts of an object, as read. -/
structure Parts where
  ws : List Int
  bs : List Int
  ns : List Nm
  ds : List Nd
  st : Rst
def st1 (s : Rst) : Rst := (manyR wordR s).2
def st2 (s : Rst) : Rst := (halfR (st1 s)).2
def st3 (s : Rst) : Rst := (bytesR (halfR (st1 s)).1 (st2 s)).2
def st4 (s : Rst) : Rst := (manyR nmR (st3 s)).2
def st5 (s : Rst) : Rst := (manyR ndR (st4 s)).2
def parts (s : Rst) : Parts := ⟨(manyR wordR s).1, (bytesR (halfR (st1 s)).1 (st2 s)).1, (manyR nmR (st3 s)).1, (manyR ndR (st4 s)).1, st5 s⟩
def errOb (p : Parts) : Int := objErr ⟨none, p.ws.length, 0, none, p.bs.length, 0, none, p.ns.length, 0, none, p.ds.length, 0, p.ns, p.ds⟩
end Go.Proofs.Ytgmpcdonmlhohaa
