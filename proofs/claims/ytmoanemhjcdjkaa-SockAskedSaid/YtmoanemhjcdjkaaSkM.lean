/- Contract of the sockets' List. -/
import Derived.Test.YtmoanemhjcdjkaaSkG
namespace Go.Proofs.Ytmoanemhjcdjkaa
open Go.RowKit
set_option maxHeartbeats 400000
set_option linter.unusedVariables false
set_option linter.unusedSimpArgs false
def idsN (F : Fs) (k : Nat) : List Int := (List.range k).filterMap fun i => (F i).map fun _ => (i : Int) + 1
theorem ids_eq (F : Fs) : idsN F 16 = ids F := rfl
theorem idsN_some {F : Fs} {k : Nat} {x : Sk} (h : F k = some x) : idsN F (k + 1) = idsN F k ++ [(k : Int) + 1] := by
  unfold idsN
  rw [List.range_succ, List.filterMap_append]
  simp [h]
theorem idsN_none {F : Fs} {k : Nat} (h : F k = none) : idsN F (k + 1) = idsN F k := by
  unfold idsN
  rw [List.range_succ, List.filterMap_append]
  simp [h]
theorem idsN_len (F : Fs) (k : Nat) : (idsN F k).length ≤ k := by
  have := List.length_filterMap_le (fun i => (F i).map fun _ => (i : Int) + 1) (List.range k)
  simpa [idsN] using this
section
variable {w : World} {B g : Nat} {F : Fs} {L : Nat → Sl} {i : Nat} {p : Sk}
def RetL (w : World) (F : Fs) (e : Ending) (w' : World) : Prop := ∃ A n c, e = .returned (.slice A n c) ∧ n = (ids F).length ∧ Row w' w.heap.size 3 1 (.slice A n c) n ((ids F).map (Value.int .i64)) ∧ Below w.heap.size w w'
set_option maxHeartbeats 2000000 in
set_option maxRecDepth 100000 in
theorem list_any (h : Re w B g F L) : Calls Try.prog 26 #[.pointer (some ⟨g, 0, none⟩)] w (RetL w F) := by
  obtain ⟨i0, ii, hz0, hz1, hz2⟩ := info_parts pi64info
  have HL : Hid (∀ j u, (cellsA F fun i => (L i).b)[j]? = some u → w.cell? ⟨g, 0 + j, none⟩ = some u) := Lib.hid (fun j u hu => by rw [Nat.zero_add]; exact (h.blk.cell j).trans hu)
  have HI := Lib.hid (info54 F fun i => (L i).b)
  have HG := Lib.hid (fun (wr : World) j (hj : j < 16) => run_index54 wr _ j _ hj (cellsA_at F (fun i => (L i).b) hj))
  have hl := h.blk.lt
  generalize (cellsA F fun i => (L i).b) = cs at *
  clear h
  go_enter Try.func26, Try.ntmps26
  go_wp2_with (refine wpList_load_arr rfl 54 (.tmp 8) rfl g 0 rfl cs _ HL.out Try.underlying54 rfl HI.out ?_)
  go_loopw [3, 10] (fun v3 x wr => ∃ k : Nat, x = .int .i64 k ∧ k ≤ 16 ∧ Row wr w.heap.size 3 1 v3 (idsN F k).length ((idsN F k).map (Value.int .i64)) ∧ Below w.heap.size w wr) (fun _ x _ => 16 - (intOf x).toNat)
  case atStart => exact ⟨0, rfl, by omega, Row.nil _ _ _ _, Below.refl _ _⟩
  case round =>
    obtain ⟨k, rfl, hk, hr, hb⟩ := hrel
    have HB := Lib.hid hb
    have HR := Lib.hid hr
    have hlen := idsN_len F k
    obtain ⟨A3, c3, rfl, -, -⟩ := hr.shape
    clear hb hr
    by_cases hk16 : k < 16
    · have hki : (k : Int) < 16 := by omega
      have hix := HG.out wr k hk16
      cases hF : F k with
      | none =>
        rw [ptrA_none hF] at hix
        have HO := Lib.hid (idsN_none hF)
        clear hF
        go_wp2
        go_roundw
        case rel => exact ⟨k + 1, by go_num, by omega, by rw [HO.out]; exact HR.out, HB.out⟩
        case measure => simp [intOf]; omega
      | some p =>
        rw [ptrA_some hF] at hix
        have HO := Lib.hid (idsN_some hF)
        clear hF
        have hll : (idsN F k).length ≤ 16 := by omega
        go_wp2_with (at_builtin; refine wpList_append_row _ rfl (.tmp 16) (.tmp 19) 49 rfl w.heap.size 3 i0 (.int .i64 0) 1 8 Try.underlying49 ii hz0 hz1 hz2 rfl (by decide) (.slice A3 (idsN F k).length c3) (idsN F k).length ((idsN F k).map (Value.int .i64)) rfl (HR.out.alloc _) (wr.heap.size + 1) (some ⟨wr.heap.size, 0, none⟩) 1 1 [.int .i64 ((k : Int) + 1)] rfl ?c1 (by simp [Value.oneCell']) (by unfold maxLen; omega) (by omega) ?c2 ?_; rotate_left; skip)
        case c1 => exact ⟨rfl, fun _ => ⟨wr.heap.size, 0, rfl, by omega, fun j u hu => by rw [Nat.zero_add]; rw [(Blk.new wr #[.int .i64 ((k : Int) + 1)] 3).cell]; simpa using hu⟩⟩
        case c2 => have := HB.out.size; simp; omega
        intro A9 c9 w9 hr9 hg9 ho9
        have HR9 : Hid (Row w9 w.heap.size 3 1 (.slice A9 ((idsN F k).length + 1) c9) (idsN F (k + 1)).length ((idsN F (k + 1)).map (Value.int .i64))) := Lib.hid (by
          rw [HO.out, List.length_append, List.map_append]
          exact hr9)
        have HB9 : Hid (Below w.heap.size w w9) := Lib.hid ((HB.out.alloc HB.out.size _).grown hg9 (by have := HB.out.size; simp; omega) (fun j hj => (HR.out.lt j hj).1))
        clear hr9 hg9 ho9
        go_wp2
        go_roundw
        case rel => exact ⟨k + 1, by go_num, by omega, HR9.out, HB9.out⟩
        case measure => simp [intOf]; omega
    · obtain rfl : k = 16 := by omega
      have HF : Hid (Row wr w.heap.size 3 1 (.slice A3 (ids F).length c3) (ids F).length ((ids F).map (Value.int .i64))) := HR
      clear hlen
      go_wp2
      go_ret
      exact ⟨A3, _, c3, rfl, rfl, HF.out, HB.out⟩
end
end Go.Proofs.Ytmoanemhjcdjkaa
