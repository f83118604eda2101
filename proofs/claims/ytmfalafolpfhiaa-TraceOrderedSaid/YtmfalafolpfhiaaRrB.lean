/- Ints in memory: contracts of slices.Clone at []int, ringlaw4.sameInts, sort.Ints; a map[int]bool of the call's own as a set. -/
import Derived.Test.YtmfalafolpfhiaaProg
import Derived.Test.YtmfalafolpfhiaaNear
import Derived.Test.YtmfalafolpfhiaaOwn
import Derived.Test.YtmfalafolpfhiaaSetF
import Derived.Test.YtmfalafolpfhiaaRecs
import Derived.Test.YtmfalafolpfhiaaRrA
import Derived.WalkSpells
import Derived.WalkLawsBesides
import Derived.Outline
import Derived.LoopTactic
import Derived.Deep.Light
import Derived.IntWalk
import Derived.Lib.Hide
import Derived.Lib.SliceRun
import Derived.Maps.RangeWalk
namespace Go.Proofs.Ytmfalafolpfhiaa
open Go.RowKit Go.Maps
set_option maxHeartbeats 400000
set_option linter.unusedVariables false
set_option linter.unusedSimpArgs false
theorem Try.infoI : (Try.prog.info? 3).map (fun i => (i.zero, i.size, i.bytes)) = some (some (.int .i64 0), 1, 8) := by kernel_rfl
theorem sl_bool {a b : Bool} (h : a = b) : Ending.returned (.bool a) = .returned (.bool b) := by rw [h]
theorem sl_int {k : IntKind} {a b : Int} (h : a = b) : Ending.returned (.int k a) = .returned (.int k b) := by rw [h]
theorem sl_below_drewN {B : Nat} {w w' : World} (h : Below B w w') (n : Nat) : Below B w (w'.drewN n) := ⟨h.os, h.tape, h.output, h.size, h.block⟩
theorem sl_eql_nil {P : Program} (w : World) (t e : TypeId) (a : Option Addr) (n c n' c' : Nat) (h : P.underlying t = some (.slice e)) :
    (binOp .eql t (.slice a n c) (.slice none n' c')).run P w = .ok (.bool a.isNone) w := by
  simp only [binOp]
  simp [Op.equal, Op.maxDepth, Lib.run_equalIn_slice_nil w 9999 t e a n c n' c' h]
theorem sl_next {p : Nat → Prop} {k : Nat} (h : ∀ j, j < k → p j) (hk : p k) : ∀ j, j < k + 1 → p j := fun j hj => by
  rcases Nat.lt_or_ge j k with hjk | hjk
  · exact h j hjk
  · obtain rfl : j = k := by omega
    exact hk
/-- A slice of ints that reads as xs (with nothing said of their range). -/
def RD (w : World) (B : Nat) (A : Option Addr) (n : Nat) (xs : List Int) : Prop := Reads w B 1 A n (xs.map (Value.int .i64))
theorem RD.len {w : World} {B n : Nat} {A : Option Addr} {xs : List Int} (h : RD w B A n xs) : xs.length = n := by simpa using h.1
theorem RD.at_ {w : World} {B n i : Nat} {A : Option Addr} {xs : List Int} (h : RD w B A n xs) (hi : i < n) : ∃ b o, A = some ⟨b, o, none⟩ ∧ b < B ∧ w.cell? ⟨b, o + i, none⟩ = some (.int .i64 (xs.getD i 0)) := by
  obtain ⟨b, o, u, e, hb, hx, hc⟩ := Reads.at_ h hi
  have hl : i < xs.length := by rw [h.len]; exact hi
  have hu : u = .int .i64 (xs.getD i 0) := by
    rw [List.getElem?_map, List.getElem?_eq_getElem hl] at hx
    simp [List.getD, List.getElem?_eq_getElem hl]
    simpa using hx.symm
  subst hu
  exact ⟨b, o, e, hb, hc⟩
theorem RD.below' {w w' : World} {B B' n : Nat} {A : Option Addr} {xs : List Int} (h : RD w B A n xs) (hb : Below B' w w') (hB : B ≤ B') : RD w' B A n xs := Reads.below' h hb hB
theorem RD.of_row {w : World} {base : Nat} {e : TypeId} {A : Option Addr} {n c : Nat} {xs : List Int} (h : Row w base e 1 (.slice A n c) n (xs.map (Value.int .i64))) : RD w w.heap.size A n xs := h.reads
theorem RD.of_row' {w : World} {base : Nat} {e : TypeId} {A : Option Addr} {n m c : Nat} {xs : List Int} (h : Row w base e 1 (.slice A n c) m (xs.map (Value.int .i64))) : RD w w.heap.size A n xs := by
  obtain ⟨A', c', e1, _, _⟩ := h.shape
  injection e1 with _ e2 _
  subst e2
  exact h.reads
theorem RD.of_ri {w : World} {B n : Nat} {A : Option Addr} {xs : List Int} (h : RI .i64 w B A n xs) : RD w B A n xs := h.1
theorem eq_of_all {xs ys : List Int} (hl : xs.length = ys.length) (h : ∀ j, j < xs.length → xs.getD j 0 = ys.getD j 0) : xs = ys := by
  refine List.ext_getElem hl fun j h1 h2 => ?_
  have := h j h1
  simpa [List.getD, List.getElem?_eq_getElem h1, List.getElem?_eq_getElem h2] using this
def ClonePost (w : World) (n : Nat) (xs : List Int) (e : Ending) (w' : World) : Prop := ∃ v, e = .returned v ∧ Row w' w.heap.size 3 1 v n (xs.map (Value.int .i64)) ∧ Below w.heap.size w w'
theorem int_oneCell (xs : List Int) : ∀ u ∈ xs.map (Value.int .i64), u.oneCell' = true := by
  intro u hu
  obtain ⟨x, _, rfl⟩ := List.mem_map.1 hu
  rfl
set_option maxRecDepth 100000 in
theorem clone_any (A : Option Addr) (n c : Nat) (xs : List Int) (w : World) (B : Nat) (h : RD w B A n xs) (hB : B ≤ w.heap.size) (hn : n * 8 ≤ 140737488355328) :
    Calls Try.prog 13 #[.slice A n c] w (ClonePost w n xs) := by
  have HL := Lib.hid h.len
  obtain ⟨i0, hi, hz0, hz1, hz2⟩ := info_parts Try.infoI
  have hnl := fun (w : World) (a : Option Addr) (n c n' c' : Nat) => sl_eql_nil (P := Try.prog) w 23 3 a n c n' c' Try.underlying23
  rcases A with _ | ⟨b, o, sp⟩
  · have h0 : n = 0 := by
      rcases Nat.eq_zero_or_pos n with h0 | h0
      · exact h0
      · obtain ⟨_, _, e, _⟩ := h.2 h0; cases e
    subst h0
    have hx : xs = [] := List.eq_nil_of_length_eq_zero HL.out
    subst hx
    go_enter Try.func13, Try.ntmps13
    go_wp2
    go_ret
    exact ⟨_, rfl, Row.nil _ _ _ _, Below.refl _ _⟩
  · go_enter Try.func13, Try.ntmps13
    go_wp2_with (at_builtin; refine wpList_append_row _ rfl (.tmp 5) (.tmp 6) 23 rfl w.heap.size 3 i0 (.int .i64 0) 1 8 Try.underlying23 hi hz0 hz1 hz2 rfl (by decide) (.slice (some ⟨w.heap.size, 0, none⟩) 0 0) 0 [] rfl ?c1 B (some ⟨b, o, sp⟩) n c (xs.map (Value.int .i64)) rfl ?c2 (int_oneCell xs) ?c3 ?c4 ?c5 ?_; rotate_left; skip)
    case c1 => exact ⟨rfl, .inr ⟨w.heap.size, 0, 0, #[], rfl, Nat.le_refl _, Blk.new w #[] 3, Nat.le_refl _, by simp, by simp, fun j u hu => by simp at hu⟩⟩
    case c2 => exact Reads.alloc h hB _
    case c3 => unfold maxLen; omega
    case c4 => omega
    case c5 => simp
    intro A' c' w1 hr hg _
    go_wp2
    go_ret
    exact ⟨_, rfl, hr, ((Below.refl _ _).alloc (Nat.le_refl _) _).grown hg (by simp) (fun k hk => by simp [Value.ownBlock] at hk; omega)⟩
set_option maxRecDepth 100000 in
theorem sameInts_any (A A' : Option Addr) (n c n' c' : Nat) (xs ys : List Int) (w : World) (B B' : Nat) (h : RD w B A n xs) (h' : RD w B' A' n' ys) (hB : B ≤ w.heap.size) (hB' : B' ≤ w.heap.size) (hn : n ≤ 9223372036854775807) (hn' : n' ≤ 9223372036854775807) :
    Calls Try.prog 8 #[.slice A n c, .slice A' n' c'] w fun e w' => e = .returned (.bool (decide (xs = ys))) ∧ Below w.heap.size w w' := by
  have HL := Lib.hid h.len
  have HL' := Lib.hid h'.len
  by_cases hne : n = n'
  · subst hne
    go_enter Try.func8, Try.ntmps8
    go_wp2
    go_loopw [13] (fun i wr => ∃ k : Nat, k ≤ n ∧ i = .int .i64 k ∧ Hid (∀ j, j < k → xs.getD j 0 = ys.getD j 0) ∧ Below w.heap.size w wr) (fun i _ => n - (intOf i).toNat)
    case atStart => exact ⟨0, by omega, rfl, Lib.hid (fun j hj => by omega), Below.refl _ _⟩
    case round =>
      obtain ⟨k, hk, rfl, hno, hbw⟩ := hrel
      by_cases hlt : k < n
      · obtain ⟨b, o, rfl, hb, hc⟩ := (h.below' hbw hB).at_ hlt
        obtain ⟨b', o', rfl, hb', hc'⟩ := (h'.below' hbw hB').at_ hlt
        have hkn : (k : Int) < n := by omega
        have hk0 : (0 : Int) ≤ k := by omega
        have hY : Hid (xs.getD k 0 ≠ ys.getD k 0 → xs ≠ ys) := Lib.hid (fun y e => y (by rw [e]))
        have hN := Lib.hid (fun y => sl_next (p := fun j => xs.getD j 0 = ys.getD j 0) hno.out y)
        generalize xs.getD k 0 = y at *
        generalize ys.getD k 0 = z at *
        by_cases hq : y = z
        · have d : (y != z) = false := by simpa using hq
          have hr := Lib.hid (hN.out hq)
          clear hq
          go_wp2
          go_quiet (fail)
          go_wp2
          go_roundw
          case rel => exact ⟨k + 1, by omega, by go_num, hr, sl_below_drewN hbw _⟩
          case measure => simp [intOf]; omega
        · have d : (y != z) = true := by simpa using hq
          go_wp2
          go_quiet (fail)
          go_wp2
          go_ret
          exact ⟨sl_bool (decide_eq_false (hY.out hq)).symm, sl_below_drewN hbw _⟩
      · obtain rfl : k = n := by omega
        go_wp2
        go_ret
        exact ⟨sl_bool (decide_eq_true (eq_of_all (by rw [HL.out, HL'.out]) (by rw [HL.out]; exact hno.out))).symm, hbw⟩
  · have d : ((n : Int) != n') = true := by simp; omega
    go_enter Try.func8, Try.ntmps8
    go_wp2
    go_ret
    exact ⟨sl_bool (decide_eq_false (fun e => hne (by rw [← HL.out, ← HL'.out, e]))).symm, Below.refl _ _⟩
end Go.Proofs.Ytmfalafolpfhiaa
