/- Contracts of seg.four, ringref4.big, bytes.Clone. -/
import Derived.Test.YthlhjaacjhlkhaaSegB
import Derived.ArgAppend
namespace Go.Proofs.Ythlhjaacjhlkhaa
open Go.RowKit
set_option maxHeartbeats 400000
set_option linter.unusedVariables false
set_option linter.unusedSimpArgs false
/-- A word as four bytes. -/
def fourI (x : Int) : List Int := [x / 16777216, x / 65536 % 256, x / 256 % 256, x % 256]
theorem fourI_byt (x : Int) (h0 : 0 ≤ x) (h1 : x < 4294967296) : Byt (fourI x) := by
  intro y hy
  simp only [fourI, List.mem_cons, List.not_mem_nil, or_false] at hy
  rcases hy with rfl | rfl | rfl | rfl <;> omega
theorem four_any (x : Int) (w : World) (h0 : 0 ≤ x) (h1 : x < 4294967296) :
    Calls Try.prog 82 #[.int .u32 x] w fun e w' => e = .returned (.slice (some ⟨w.heap.size, 0, none⟩) 4 4) ∧ w' = w.alloc (.cells ((fourI x).map (Value.int .u8)).toArray 5) := by
  go_enter Try.func82, Try.ntmps82
  go_wp2
  go_ret
  exact ⟨rfl, rfl⟩
theorem big_any (x : Int) (w : World) (h0 : 0 ≤ x) (h1 : x < 4294967296) :
    Calls Try.prog 84 #[.int .u32 x] w fun e w' => e = .returned (.string (strOfNums (fourI x))) ∧ Below w.heap.size w w' := by
  have hr : RB (w.alloc (.cells #[.int .u8 (x / 16777216), .int .u8 (x / 65536 % 256), .int .u8 (x / 256 % 256), .int .u8 (x % 256)] 5)) (w.heap.size + 1) (some ⟨w.heap.size, 0, none⟩) 4 (fourI x) := RB.new w 5 (fourI x) (fourI_byt x h0 h1)
  have e1 := hr.conv (P := Try.prog) 4 23 9 5 Try.underlying23 Try.underlying5 Try.underlying9
  go_enter Try.func84, Try.ntmps84
  go_wp2
  go_ret
  exact ⟨rfl, (Below.refl _ _).alloc (Nat.le_refl _) _⟩
theorem u8info : (Try.prog.info? 5).map (fun i => (i.zero, i.size, i.bytes)) = some (some (.int .u8 0), 1, 1) := by kernel_rfl
theorem clone_any (A : Option Addr) (n c : Nat) (xs : List Int) (w : World) (B : Nat) (h : RB w B A n xs) (hB : B ≤ w.heap.size) (hn : n ≤ 140737488355328) :
    Calls Try.prog 83 #[.slice A n c] w fun e w' => ∃ v, e = .returned v ∧ w'.ownsRow w.heap.size 5 1 v n (xs.map (Value.int .u8)) ∧ Below w.heap.size w w' := by
  rcases A with _ | ad
  · have hn0 : n = 0 := by
      rcases Nat.eq_zero_or_pos n with h0 | h0
      · exact h0
      · obtain ⟨_, _, e, _⟩ := h.1.2 h0; cases e
    subst hn0
    have hx : xs = [] := List.eq_nil_of_length_eq_zero h.len
    subst hx
    have en := fun W => Lib.run_eql_slice_nil (P := Try.prog) W 23 5 none 0 c 0 0 Try.underlying23
    go_enter Try.func83, Try.ntmps83
    go_wp2
    go_ret
    exact ⟨_, rfl, ⟨by simp, .inl ⟨rfl, rfl⟩⟩, Below.refl _ _⟩
  · obtain ⟨i0, hi0, hz0, hz1, hz2⟩ := info_parts u8info
    have en := fun W => Lib.run_eql_slice_nil (P := Try.prog) W 23 5 (some ad) n c 0 0 Try.underlying23
    go_enter Try.func83, Try.ntmps83
    go_wp2_with (at_builtin; refine wpList_append_reads _ rfl (.tmp 5) (.tmp 6) _ rfl w.heap.size 5 i0 _ 1 1 Try.underlying23 hi0 hz0 hz1 hz2 rfl (by omega) (.slice (some ⟨w.heap.size, 0, none⟩) 0 0) 0 [] rfl (World.ownsRow_made w #[] 0 (Nat.le_refl _) (by simp) rfl) _ (some ad) n c (xs.map (Value.int .u8)) rfl (h.alloc hB _).1 (u8_oneCell xs) (by simp only [maxLen]; omega) (by omega) (by simp) ?_; intro v1 w1 hown1 hg1 hat1)
    go_ret
    exact ⟨v1, rfl, by simpa using hown1, ((Below.refl _ _).alloc (Nat.le_refl _) _).grown hg1 (by simp) (by simp [Value.ownBlock])⟩
end Go.Proofs.Ythlhjaacjhlkhaa
