/- Contract of the sockets' Reach. -/
import Derived.Test.YtmoanemhjcdjkaaSkG
namespace Go.Proofs.Ytmoanemhjcdjkaa
open Go.RowKit
set_option maxHeartbeats 400000
set_option linter.unusedVariables false
set_option linter.unusedSimpArgs false
section
variable {w : World} {B g : Nat} {F : Fs} {L : Nat → Sl} {i : Nat} {p : Sk}
/-- Make, when there is room: all that it leaves. -/
def MadeW (w : World) (g i : Nat) : World := (w.setCell ⟨g, i, none⟩ (.pointer (some ⟨w.heap.size, 0, none⟩))).alloc (.cells (Sk.zero.cells ⟨w.heap.size, .slice none 0 0, .slice none 0 0⟩) 60)
theorem make_free (h : Re w B g F L) (hf : freeAt F i) : Calls Try.prog 5 #[.pointer (some ⟨g, 0, none⟩)] w fun e w' => e = .returned (.tuple #[.int .i64 ((i : Int) + 1), .int .i64 0]) ∧ w' = MadeW w g i := by
  have hlt := h.blk.lt
  have HI := Lib.hid (index_free h hf)
  have hi := hf.1
  have hi' : (i : Int) < 16 := by omega
  have hd : decide ((i : Int) < 0) = false := by simp
  have hc := (h.blk.cell i).trans (cellsA_at F (fun i => (L i).b) hi)
  have hfz := h.blk.free i
  clear h hf
  go_enter Try.func5, Try.ntmps5
  go_wp2_with fail
  refine HI.out.mono ?_
  rintro e w' ⟨rfl, rfl⟩
  go_wp2
  go_ret2
  exact ⟨rfl, rfl⟩
theorem make_full (h : Re w B g F L) (hf : full F) : Calls Try.prog 5 #[.pointer (some ⟨g, 0, none⟩)] w fun e w' => e = .returned (.tuple #[.int .i64 0, .int .i64 6]) ∧ w = w' := by
  have hlt := h.blk.lt
  have HI := Lib.hid (index_full h hf)
  clear h hf
  go_enter Try.func5, Try.ntmps5
  go_wp2_with fail
  refine HI.out.mono ?_
  rintro e w' ⟨rfl, rfl⟩
  go_wp2
  go_ret2
  exact ⟨rfl, rfl⟩
end
end Go.Proofs.Ytmoanemhjcdjkaa
