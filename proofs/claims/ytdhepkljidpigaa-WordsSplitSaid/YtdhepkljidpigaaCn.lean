/- Contract of strings.Contains by the shelf. -/
import Derived.Test.YtdhepkljidpigaaProg
import Derived.Shelf.Lay
import Derived.Shelf.Strings.Search3
import Derived.Shelf.Vars
import Derived.Ground.NamesProg
namespace Go.Proofs
open Go.Shelf
shelf_lay Lays.n144 Nm 144 at Try as Try.lays144
end Go.Proofs
namespace Go.Proofs.Ytdhepkljidpigaa
open Go.RowKit
/-- The library's own variable holds some integer. -/
def VarOk (w : World) : Prop := 0 < w.heap.size ∧ ∃ m, w.cell? ⟨0, 0, none⟩ = some (.int .i64 m)
theorem VarOk.below {w w' : World} (h : VarOk w) {B : Nat} (hb : Below B w w') (hB : 0 < B) : VarOk w' := by
  obtain ⟨h1, m, h2⟩ := h
  exact ⟨Nat.lt_of_lt_of_le h1 hb.size, m, (hb.cell (p := ⟨0, 0, none⟩) hB).trans h2⟩
theorem varOk_of {w : World} (h : w.ShapedOpen Try.prog) : VarOk w := by
  obtain ⟨m, hm⟩ := cell_of_shapedOpen_int (g := 0) (zero := #[.int .i64 0]) (t := 3) h (by decide +kernel) (by kernel_rfl) rfl (by kernel_rfl) (by kernel_rfl) Try.underlying3
  exact ⟨World.block_lt_of_cell? w _ hm, m, hm⟩
theorem contains_any (s sub : ByteArray) (w : World) (hs : s.size < 4294967281) (hm : VarOk w) :
    Calls Try.prog 23 #[.string s, .string sub] w fun e w' => e = .returned (.bool (Lib.contains s.data.toList sub.data.toList)) ∧ w' = w := by
  obtain ⟨_, m, hm⟩ := hm
  exact Any.strings_Contains Try.lays144 s sub m w hs hm
end Go.Proofs.Ytdhepkljidpigaa
