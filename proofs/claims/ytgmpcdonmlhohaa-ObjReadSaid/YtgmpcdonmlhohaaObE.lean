/- Contracts of bytes.Clone and obj.From. -/
import Derived.Test.YtgmpcdonmlhohaaObW
import Derived.Test.YtgmpcdonmlhohaaObD
import Derived.Test.YtgmpcdonmlhohaaFlow
import Derived.WalkSpells
namespace Go.Proofs.Ytgmpcdonmlhohaa
open Go.RowKit
set_option maxHeartbeats 400000
set_option linter.unusedVariables false
set_option linter.unusedSimpArgs false
theorem infoW : (Try.prog.info? 22).map (fun i => (i.zero, i.size, i.bytes)) = some (some (.int .u32 0), 1, 4) := by kernel_rfl
theorem infoB : (Try.prog.info? 5).map (fun i => (i.zero, i.size, i.bytes)) = some (some (.int .u8 0), 1, 1) := by kernel_rfl
theorem infoD : (Try.prog.info? 79).map (fun i => (i.zero, i.size, i.bytes)) = some (some (.agg #[.int .i64 0, .string ByteArray.empty, .int .i64 0]), 3, 32) := by kernel_rfl
theorem infoN : (Try.prog.info? 69).map (fun i => (i.zero, i.size, i.bytes)) = some (some (.agg #[.string ByteArray.empty, .int .i64 0, .int .i64 0, .bool false]), 4, 40) := by kernel_rfl
theorem ob_eql_nil {P : Program} (w : World) (t e : TypeId) (a : Option Addr) (n c n' c' : Nat) (h : P.underlying t = some (.slice e)) :
    (binOp .eql t (.slice a n c) (.slice none n' c')).run P w = .ok (.bool a.isNone) w := by
  simp only [binOp]
  simp [Op.equal, Op.maxDepth, Lib.run_equalIn_slice_nil w 9999 t e a n c n' c' h]
theorem one_i {k : IntKind} (xs : List Int) : ∀ u ∈ xs.map (Value.int k), u.oneCell' = true := by
  intro u hu
  obtain ⟨x, _, rfl⟩ := List.mem_map.1 hu
  rfl
theorem one_nd (ds : List Nd) : ∀ u ∈ ds.flatMap Nd.cells, u.oneCell' = true := by
  intro u hu
  obtain ⟨x, _, hx⟩ := List.mem_flatMap.1 hu
  simp only [Nd.cells, List.mem_cons, List.not_mem_nil, or_false] at hx
  rcases hx with rfl | rfl | rfl <;> rfl
/-- A slice of the call's own, of n elements. -/
def OwnS (w : World) (base : Nat) (e : TypeId) (size n : Nat) (v : Value) (xs : List Value) : Prop := ∃ A c, v = .slice A n c ∧ Row w base e size (.slice A n c) n xs
theorem Row.drewN' {w : World} {base : Nat} {e : TypeId} {size n : Nat} {v : Value} {xs : List Value} (h : Row w base e size v n xs) (k : Nat) : Row (w.drewN k) base e size v n xs := h
def ClonePost (w : World) (n : Nat) (xs : List Int) (e : Ending) (w' : World) : Prop := ∃ v, e = .returned v ∧ OwnS w' w.heap.size 5 1 n v (xs.map (Value.int .u8)) ∧ Below w.heap.size w w'
set_option maxRecDepth 100000 in
theorem cloneB_any (A : Option Addr) (n c : Nat) (xs : List Int) (w : World) (B : Nat) (h : RB w B A n xs) (hB : B ≤ w.heap.size) (hn : n ≤ 140737488355328) :
    Calls Try.prog 26 #[.slice A n c] w (ClonePost w n xs) := by
  have HL := Lib.hid h.len
  obtain ⟨i0, hi, hz0, hz1, hz2⟩ := info_parts infoB
  have hnl := fun (w : World) (a : Option Addr) (n c n' c' : Nat) => ob_eql_nil (P := Try.prog) w 35 5 a n c n' c' Try.underlying35
  rcases A with _ | ⟨b, o, sp⟩
  · have h0 : n = 0 := by
      rcases Nat.eq_zero_or_pos n with h0 | h0
      · exact h0
      · obtain ⟨_, _, e, _⟩ := h.1.2 h0; cases e
    subst h0
    have hx : xs = [] := List.eq_nil_of_length_eq_zero HL.out
    subst hx
    go_enter Try.func26, Try.ntmps26
    go_wp2
    go_ret
    exact ⟨_, rfl, ⟨none, 0, rfl, Row.nil _ _ _ _⟩, Below.refl _ _⟩
  · go_enter Try.func26, Try.ntmps26
    go_wp2_with (at_builtin; refine wpList_append_row _ rfl (.tmp 5) (.tmp 6) 35 rfl w.heap.size 5 i0 (.int .u8 0) 1 1 Try.underlying35 hi hz0 hz1 hz2 rfl (by decide) (.slice (some ⟨w.heap.size, 0, none⟩) 0 0) 0 [] rfl ?c1 B (some ⟨b, o, sp⟩) n c (xs.map (Value.int .u8)) rfl ?c2 (one_i xs) ?c3 ?c4 ?c5 ?_; rotate_left; skip)
    case c1 => exact ⟨rfl, .inr ⟨w.heap.size, 0, 0, #[], rfl, Nat.le_refl _, Blk.new w #[] 5, Nat.le_refl _, by simp, by simp, fun j u hu => by simp at hu⟩⟩
    case c2 => exact Reads.alloc h.1 hB _
    case c3 => unfold maxLen; omega
    case c4 => omega
    case c5 => simp
    intro A' c' w1 hr hg _
    go_wp2
    go_ret
    exact ⟨_, rfl, ⟨A', c', by simp, by simpa using hr⟩, ((Below.refl _ _).alloc (Nat.le_refl _) _).grown hg (by simp) (fun k hk => by simp [Value.ownBlock] at hk; omega)⟩
end Go.Proofs.Ytgmpcdonmlhohaa
