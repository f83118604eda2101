/- Contracts of the library by the shelf: ReplaceAll, (*Builder).WriteString, String; a builder lasts while memory grows. -/
import Derived.Test.YtdchopaokjpmdaaDoorProg
import Derived.Test.YtdchopaokjpmdaaDoorNear
import Derived.Test.YtdchopaokjpmdaaDoorRecs
import Derived.Test.YtdchopaokjpmdaaDoorOwn
import Derived.Shelf.Lay
import Derived.Shelf.Strings.Replace
import Derived.Shelf.Strings.Builder1
import Derived.Shelf.Vars
import Derived.Lib.SplitLaws
import Derived.Ground.NamesProg
import Derived.WalkSpells
import Derived.WalkLawsBesides
import Derived.Outline
import Derived.LoopTactic
import Derived.IntWalk
namespace Go.Proofs
open Go.Shelf
shelf_lay Lays.n155 Nm 155 at Tryd as Tryd.lays155
shelf_lay Lays.n169 Nm 169 at Tryd as Tryd.lays169
theorem Tryd.extra155 : Builder.Extra Tryd.prog Tryd.lays155_ren where
  sizeBuilder := by kernel_rfl
  liesBuilder := by kernel_rfl
  t5 := Tryd.underlying5
  a5 := Tryd.isAgg5
  z5 := Tryd.sizeOf5
  v5 := Tryd.zeroValue5
  infoByte := by kernel_rfl
  cellsByte := by kernel_rfl
  sizeByte := by kernel_rfl
  neB5 := by decide
theorem Tryd.extra169 : Builder.Extra Tryd.prog Tryd.lays169_ren where
  sizeBuilder := by kernel_rfl
  liesBuilder := by kernel_rfl
  t5 := Tryd.underlying5
  a5 := Tryd.isAgg5
  z5 := Tryd.sizeOf5
  v5 := Tryd.zeroValue5
  infoByte := by kernel_rfl
  cellsByte := by kernel_rfl
  sizeByte := by kernel_rfl
  neB5 := by decide
end Go.Proofs
namespace Go.Proofs.YtdchopaokjpmdaaDoor
open Go.RowKit
set_option maxHeartbeats 400000
set_option linter.unusedVariables false
set_option linter.unusedSimpArgs false
abbrev bs (l : List UInt8) : ByteArray := ⟨l.toArray⟩
theorem replaceAll_any (s old new : ByteArray) (m : Int) (w : World) (hs : s.size < 4294967281) (hm : w.cell? ⟨Tryd.lays155_ren.g 1, 0, none⟩ = some (.int .i64 m)) (h1 : 1 ≤ old.size) (hlen : s.size + Lib.countB s old * new.size ≤ 140737488355328) :
    Calls Tryd.prog 8 #[.string s, .string old, .string new] w fun e w' => e = .returned (.string (bs (Lib.replaceAll s.data.toList old.data.toList new.data.toList))) ∧ Below w.heap.size w w' :=
  Any.strings_ReplaceAll Tryd.lays155 Tryd.extra155 s old new m w hs hm h1 hlen
theorem bs_size (l : List UInt8) : (bs l).size = l.length := by
  show l.toArray.size = _
  simp
theorem bs_data (s : ByteArray) : bs s.data.toList = s := rfl
theorem bs_append (a b : List UInt8) : bs a ++ bs b = bs (a ++ b) := by
  simp [ByteArray.mk_append_mk]
theorem bs_app (s : ByteArray) (b : List UInt8) : s ++ bs b = bs (s.data.toList ++ b) := bs_append s.data.toList b
theorem bs_app' (a : List UInt8) (s : ByteArray) : bs a ++ s = bs (a ++ s.data.toList) := bs_append a s.data.toList
theorem builder_grow {B b : Nat} {cs : List Value} {w w' : World} (h : Lib.IsBuilder 32 5 B b cs w) (hb : Below w.heap.size w w') : Lib.IsBuilder 32 5 B b cs w' := by
  have one : ∀ p, Lib.BuilderAt 32 5 B b p cs w → Lib.BuilderAt 32 5 B b p cs w' := by
    rintro p ⟨h1, v, h2, h3, h4⟩
    have hlt : b < w.heap.size := (Array.getElem?_eq_some_iff.1 h2).1
    refine ⟨h1, v, (hb.block b hlt).trans h2, ⟨h3.1, ?_⟩, h4⟩
    rcases h3.2 with h0 | ⟨g, cap, cur, rfl, hB, hg, hr⟩
    · exact .inl h0
    · exact .inr ⟨g, cap, cur, rfl, hB, (hb.block g (Array.getElem?_eq_some_iff.1 hg).1).trans hg, hr⟩
  rcases h with h | h
  · exact .inl (one _ h)
  · exact .inr (one _ h)
theorem writeString_any (B b : Nat) (l : List UInt8) (s : ByteArray) (w : World) (h : Lib.IsBuilder 32 5 B b (Lib.byteCells l) w) (hlen : l.length + s.size ≤ 140737488355328) (hBw : B ≤ w.heap.size) :
    Calls Tryd.prog 9 #[.pointer (some ⟨b, 0, none⟩), .string s] w fun e w' => e = .returned (.tuple #[.int .i64 s.size, .nilIface]) ∧ Lib.IsBuilder 32 5 B b (Lib.byteCells (l ++ s.data.toList)) w' ∧ Below B w w' := by
  have h1 : Calls Tryd.prog 9 #[.pointer (some ⟨b, 0, none⟩), .string s] w _ := Any.Builder_WriteString (ρ := Tryd.lays155_ren) { Tryd.lays155 with } Tryd.extra155 B b (Lib.byteCells l) s w h (by rw [Lib.byteCells_length]; exact hlen) hBw
  refine h1.mono ?_
  rintro e w' ⟨rfl, hb, hw⟩
  refine ⟨rfl, .inr ?_, hw⟩
  have e : Lib.byteCells (l ++ s.data.toList) = Lib.byteCells l ++ Lib.strCells s := by simp [Lib.byteCells, Lib.strCells]
  rw [e]
  exact hb
theorem string_any (B b : Nat) (l : List UInt8) (w : World) (h : Lib.IsBuilder 32 5 B b (Lib.byteCells l) w) (hBw : B ≤ w.heap.size) :
    Calls Tryd.prog 10 #[.pointer (some ⟨b, 0, none⟩)] w fun e w' => e = .returned (.string (bs l)) ∧ Below B w w' :=
  Any.Builder_String_any Tryd.lays169 Tryd.extra169 B b l w h hBw
/-! quoting, plain -/
def qL (l : List UInt8) : List UInt8 := l.flatMap fun b => if b = 39 then [39, 92, 39, 39] else [b]
def quoteL (l : List UInt8) : List UInt8 := 39 :: qL l ++ [39]
theorem repl_ne (c b : UInt8) (new : List UInt8) (h : b ≠ c) : ∀ (k : Nat) (l : List UInt8), Lib.replaceK [c] new k (b :: l) = b :: Lib.replaceK [c] new k l
  | 0, l => rfl
  | k + 1, l => by
    have hp : ([c].isPrefixOf (b :: l)) = false := by simp [List.isPrefixOf, Ne.symm h]
    have hi : Lib.index (b :: l) [c] = if Lib.index l [c] == -1 then -1 else Lib.index l [c] + 1 := by
      rw [Lib.index, hp]; rfl
    have hge := Lib.index_ge l [c]
    rw [Lib.replaceK, Lib.replaceK, hi]
    by_cases h1 : (Lib.index l [c] == -1) = true
    · rw [if_pos h1, if_pos h1]; rfl
    · rw [if_neg h1, if_neg h1]
      have h2 : ¬ Lib.index l [c] = -1 := by simpa using h1
      have h3 : ¬ (Lib.index l [c] + 1 == -1) = true := by simp; omega
      rw [if_neg h3]
      obtain ⟨i, hi'⟩ : ∃ i : Nat, Lib.index l [c] = i := ⟨(Lib.index l [c]).toNat, by omega⟩
      rw [hi', show ((i : Int) + 1).toNat = i + 1 by omega, Int.toNat_natCast]
      simp only [List.length_singleton, List.take_succ_cons, List.cons_append, List.drop_succ_cons]
theorem repl_eq (c : UInt8) (new : List UInt8) (k : Nat) (l : List UInt8) : Lib.replaceK [c] new (k + 1) (c :: l) = new ++ Lib.replaceK [c] new k l := by
  have hi : Lib.index (c :: l) [c] = 0 := by
    rw [Lib.index]; simp [List.isPrefixOf]
  rw [Lib.replaceK, hi]
  rfl
theorem repl_q : ∀ (l : List UInt8), Lib.replaceK [39] [39, 92, 39, 39] (l.count 39) l = qL l
  | [] => rfl
  | b :: l => by
    by_cases h : b = 39
    · subst h
      rw [List.count_cons_self, repl_eq, repl_q l]
      rfl
    · rw [List.count_cons_of_ne h, repl_ne 39 b _ h, repl_q l]
      simp [qL, h]
theorem replaceAll_q (l : List UInt8) : Lib.replaceAll l [39] [39, 92, 39, 39] = qL l := by
  unfold Lib.replaceAll Lib.replace
  rw [if_neg (by decide)]
  unfold Lib.replaceNum
  rw [if_pos (.inl (by omega)), Lib.count_one]
  exact repl_q l
theorem qL_len (l : List UInt8) : (qL l).length ≤ 4 * l.length := by
  induction l with
  | nil => simp [qL]
  | cons b l ih =>
    have e : qL (b :: l) = (if b = 39 then [39, 92, 39, 39] else [b]) ++ qL l := rfl
    rw [e, List.length_append, List.length_cons]
    split <;> simp <;> omega
def VarOk (w : World) : Prop := 0 < w.heap.size ∧ ∃ m, w.cell? ⟨0, 0, none⟩ = some (.int .i64 m)
theorem VarOk.below {w w' : World} (h : VarOk w) {B : Nat} (hb : Below B w w') (hB : 0 < B) : VarOk w' := by
  obtain ⟨h1, m, h2⟩ := h
  exact ⟨Nat.lt_of_lt_of_le h1 hb.size, m, (hb.cell (p := ⟨0, 0, none⟩) hB).trans h2⟩
theorem varOk_of {w : World} (h : w.ShapedOpen Tryd.prog) : VarOk w := by
  obtain ⟨m, hm⟩ := cell_of_shapedOpen_int (g := 0) (zero := #[.int .i64 0]) (t := 3) h (by decide +kernel) (by kernel_rfl) rfl (by kernel_rfl) (by kernel_rfl) Tryd.underlying3
  exact ⟨World.block_lt_of_cell? w _ hm, m, hm⟩
end Go.Proofs.YtdchopaokjpmdaaDoor
