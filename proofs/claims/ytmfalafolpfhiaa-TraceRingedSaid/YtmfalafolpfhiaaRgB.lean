/- Contracts of slices.Sort, slices.Compact, slices.Reverse at rows; contract of trace.next. -/
import Derived.Test.YtmfalafolpfhiaaRgA
import Derived.Test.YtmfalafolpfhiaaRrE
import Derived.Test.YtmfalafolpfhiaaRrS
import Derived.Shelf.Slices.CompactI
import Derived.Shelf.Slices.Reverse
import Derived.Shelf.Slices.In.SortNone2
import Derived.Ground.Names2Prog
namespace Go.Proofs
open Go.Shelf
shelf_lay Lays.n189 Nm 189 at Try as Try.lays189
shelf_lay Lays.n112 Nm 112 at Try as Try.lays112
shelf_lay Lays2.n20 Nm2 20 at Try as Try.laysB20
end Go.Proofs
namespace Go.Proofs.Ytmfalafolpfhiaa
open Go.RowKit Go.Maps
set_option maxHeartbeats 400000
set_option linter.unusedVariables false
set_option linter.unusedSimpArgs false
open Go.Sort in
/-- A row of ints, read as the shelf reads it. -/
theorem row_holds {w : World} {B n c : Nat} {A : Option Addr} {zs : List Int} (h : Row w B 3 1 (.slice A n c) n (zs.map (Value.int .i64))) (h0 : 0 < n) :
    ∃ g o cur, A = some ⟨g, o, none⟩ ∧ zs.length = n ∧ n ≤ c ∧ c ≤ maxLen ∧ B ≤ g ∧ w.heap[g]? = some (.cells cur 3 (0, 0)) ∧ o + c * 1 ≤ cur.size ∧ Holds (Value.int .i64) w g o zs.toArray := by
  have hl : zs.length = n := by have := h.1; simpa using this
  obtain ⟨h1, h2⟩ := h
  rcases h2 with ⟨e, h3⟩ | ⟨g, o, cap, cur, e, hb, hg, hnc, hcm, hsz, hx⟩
  · omega
  · injection e with e1 e2 e3
    subst e1; subst e3
    refine ⟨g, o, cur, rfl, hl, hnc, hcm, hb, hg, hsz, fun j hj => ?_⟩
    have hj' : j < zs.length := by simpa using hj
    refine ⟨?_, frozen_of_row w g (o + j) cur 3 hg⟩
    rw [cell_of_row w g (o + j) cur 3 (0, 0) hg, hx j (.int .i64 zs[j]) (by simp [hj'])]
    simp [hj']
open Go.Sort in
theorem row_put {w w' : World} {B n c g o : Nat} {cur : Array Value} {zs : List Int} (hB : B ≤ g) (hg : w.heap[g]? = some (.cells cur 3 (0, 0))) (hm : c ≤ maxLen) (hsz : o + c * 1 ≤ cur.size) (hn : n ≤ c) (hz : n ≤ zs.length) {m : Nat} {os : Array Obj}
    (hw : w' = grow (putRow (Value.int .i64) (Sort.ahead w m) g o zs.toArray) os) : Row w' B 3 1 (.slice (some ⟨g, o, none⟩) n c) n ((zs.take n).map (Value.int .i64)) ∧ Fr (fun k => some g = some k) w w' := by
  subst hw
  have hgl := lt_blk hg
  have hg' : (grow (putRow (Value.int .i64) (Sort.ahead w m) g o zs.toArray) os).heap[g]? = some (.cells (putCells (Value.int .i64) o zs.toArray cur) 3 (0, 0)) := by
    rw [heap_grow_old _ _ (by simpa using hgl)]
    simp [putRow, mapBlock, Sort.ahead, Array.getElem?_modify, hg, onCells]
  refine ⟨⟨by simp; omega, .inr ⟨g, o, c, _, rfl, hB, hg', hn, hm, by simpa [putCells] using hsz, fun j u hu => ?_⟩⟩, ⟨rfl, rfl, rfl, by simp, fun k hk hne => ?_⟩⟩
  · have hj : j < n := by
      rcases Nat.lt_or_ge j n with hj | hj
      · exact hj
      · rw [List.getElem?_eq_none (by simp; omega)] at hu; cases hu
    have hu' : u = .int .i64 (zs[j]'(by omega)) := by
      rw [List.getElem?_map, List.getElem?_take, if_pos hj, List.getElem?_eq_getElem (by omega)] at hu; simpa using hu.symm
    subst hu'
    have ho : o + j < cur.size := by omega
    have hj2 : j < zs.length := by omega
    simp [putCells, ho, hj2]
  · rw [heap_grow_old _ _ (by simpa using hk)]
    have : g ≠ k := fun e => hne (by rw [e])
    simp [putRow, mapBlock, Sort.ahead, Array.getElem?_modify, this]
open Go.Sort in
theorem sort29 (A : Option Addr) (n c B : Nat) (zs : List Int) (w : World) (h : Row w B 3 1 (.slice A n c) n (zs.map (Value.int .i64))) (hn : n < 4611686018427387904) :
    Calls Try.prog 29 #[.slice A n c] w fun e w' => e = .returned (.tuple #[]) ∧ Row w' B 3 1 (.slice A n c) n ((zs.mergeSort fun x y => decide (x ≤ y)).map (Value.int .i64)) ∧ Fr (fun k => (Value.slice A n c).ownBlock = some k) w w' := by
  rcases Nat.eq_zero_or_pos n with h0 | h0
  · subst h0
    refine (Any.slices_Sort_int_none Try.lays189 A c w).mono ?_
    rintro e w' ⟨rfl, rfl⟩
    have : zs = [] := List.eq_nil_of_length_eq_zero (by have := h.1; simpa using this)
    subst this
    exact ⟨rfl, by simpa using h, Fr.refl _ _⟩
  · obtain ⟨g, o, cur, rfl, hl, hnc, hcm, hb, hg, hsz, hH⟩ := row_holds h h0
    have hs := Any.slices_Sort_int Try.lays189 g o c zs w hH (lt_blk hg) (by omega)
    rw [hl] at hs
    refine hs.mono ?_
    rintro e w' ⟨rfl, m, os, hw⟩
    have hsl : (zs.mergeSort fun x y => decide (x ≤ y)).length = n := by rw [List.length_mergeSort, hl]
    obtain ⟨r1, r2⟩ := row_put (n := n) hb hg hcm hsz hnc (by omega) hw
    rw [List.take_of_length_le (by omega)] at r1
    exact ⟨rfl, r1, r2⟩
theorem compact_le (zs : List Int) : (Lib.compact zs).length ≤ zs.length := by
  unfold Lib.compact Lib.compactUpTo
  rw [List.length_map]
  exact Nat.le_trans (List.length_filter_le _ _) (by simp)
open Go.Sort in
theorem compact30 (A : Option Addr) (n c B : Nat) (zs : List Int) (w : World) (h : Row w B 3 1 (.slice A n c) n (zs.map (Value.int .i64))) (hn : n < 4611686018427387904) :
    Calls Try.prog 30 #[.slice A n c] w fun e w' => ∃ m, e = .returned (.slice A m c) ∧ m = (Lib.compact zs).length ∧ Row w' B 3 1 (.slice A m c) m ((Lib.compact zs).map (Value.int .i64)) ∧ Fr (fun k => (Value.slice A n c).ownBlock = some k) w w' := by
  rcases Nat.eq_zero_or_pos n with h0 | h0
  · subst h0
    refine (Any.slices_Compact_int_empty Try.laysB20 A c w).mono ?_
    rintro e w' ⟨rfl, rfl⟩
    have : zs = [] := List.eq_nil_of_length_eq_zero (by have := h.1; simpa using this)
    subst this
    exact ⟨0, rfl, rfl, by simpa [Lib.compact, Lib.compactUpTo] using h, Fr.refl _ _⟩
  · obtain ⟨g, o, cur, rfl, hl, hnc, hcm, hb, hg, hsz, hH⟩ := row_holds h h0
    have hs := Any.slices_Compact_int Try.laysB20 g o c zs w hH (by omega) (by omega)
    rw [hl] at hs
    refine hs.mono ?_
    rintro e w' ⟨rfl, q, hw⟩
    have hle := compact_le zs
    obtain ⟨r1, r2⟩ := row_put (w' := w') (zs := Lib.compact zs ++ List.replicate (n - (Lib.compact zs).length) 0) (n := (Lib.compact zs).length) (m := q) (os := #[]) hb hg hcm hsz (by omega) (by simp) (by rw [hw]; simp [grow]; rfl)
    rw [List.take_left' rfl] at r1
    exact ⟨_, rfl, rfl, r1, r2⟩
open Go.Sort in
theorem reverse17 (A : Option Addr) (n c B : Nat) (zs : List Int) (w : World) (h : Row w B 3 1 (.slice A n c) n (zs.map (Value.int .i64))) (hn : n < 4611686018427387904) :
    Calls Try.prog 17 #[.slice A n c] w fun e w' => e = .returned (.tuple #[]) ∧ Fr (fun k => (Value.slice A n c).ownBlock = some k) w w' := by
  rcases Nat.eq_zero_or_pos n with h0 | h0
  · subst h0
    refine (Any.slices_Reverse_int_empty Try.lays112 A c w).mono ?_
    rintro e w' ⟨rfl, rfl⟩
    exact ⟨rfl, Fr.refl _ _⟩
  · obtain ⟨g, o, cur, rfl, hl, hnc, hcm, hb, hg, hsz, hH⟩ := row_holds h h0
    have hs := Any.slices_Reverse_int Try.lays112 g o c zs w hH (by omega)
    rw [hl] at hs
    refine hs.mono ?_
    rintro e w' ⟨rfl, q, hw⟩
    obtain ⟨r1, r2⟩ := row_put (w' := w') (zs := zs.reverse) (n := 0) (m := q) (os := #[]) hb hg hcm hsz (by omega) (by simp) (by rw [hw]; simp [grow]; rfl)
    exact ⟨rfl, r2⟩
theorem compact_mem (zs : List Int) (x : Int) : x ∈ Lib.compact zs ↔ x ∈ zs := by
  unfold Lib.compact Lib.compactUpTo
  simp only [List.mem_map, List.mem_filter, List.mem_range]
  have hget : ∀ j, j < zs.length → zs.toArray[j]! = zs.getD j 0 := fun j hj => by simp [List.getD, hj]
  constructor
  · rintro ⟨j, ⟨hj, _⟩, rfl⟩
    rw [hget j hj]
    simp [List.getD, List.getElem?_eq_getElem hj]
  · intro hx
    obtain ⟨j, hj, rfl⟩ := List.getElem_of_mem hx
    have key : ∀ j (hj : j < zs.length), ∃ i, (i < zs.length ∧ Lib.keeps zs.toArray i = true) ∧ zs.toArray[i]! = zs[j] := by
      intro j
      induction j with
      | zero => intro hj; exact ⟨0, ⟨hj, by simp [Lib.keeps]⟩, by simp [hj]⟩
      | succ j ih =>
        intro hj
        by_cases hk : Lib.keeps zs.toArray (j + 1) = true
        · exact ⟨j + 1, ⟨hj, hk⟩, by simp [hj]⟩
        · obtain ⟨i, h1, h2⟩ := ih (by omega)
          refine ⟨i, h1, h2.trans ?_⟩
          unfold Lib.keeps at hk
          simp only [Nat.succ_ne_zero, false_or, decide_eq_true_eq, Nat.add_sub_cancel, Classical.not_not] at hk
          rw [hget _ hj, hget j (by omega)] at hk
          simpa [List.getD, List.getElem?_eq_getElem hj, List.getElem?_eq_getElem (show j < zs.length by omega)] using hk.symm
    exact key j hj
/-- What trace.next answers. -/
def NextPost (w : World) (es : List (Int × Int)) (m : Int) (e : Ending) (w' : World) : Prop :=
  ∃ (v : Value) (xs : List Int), e = .returned v ∧ Row w' w.heap.size 3 1 v xs.length (xs.map (Value.int .i64)) ∧ Below w.heap.size w w' ∧ (∀ x, x ∈ xs ↔ (m, x) ∈ es) ∧ xs.length ≤ es.length
set_option maxHeartbeats 1000000 in
set_option maxRecDepth 100000 in
theorem next_any (A : Option Addr) (n c : Nat) (es : List (Int × Int)) (m : Int) (w : World) (B : Nat) (h : RE w B A n es) (hB : B ≤ w.heap.size) (hn : n ≤ 4096) :
    Calls Try.prog 16 #[.slice A n c, .int .i64 m] w (NextPost w es m) := by
  have HL := Lib.hid h.2
  obtain ⟨i0, hi, hz0, hz1, hz2⟩ := info_parts Try.infoI
  go_enter Try.func16, Try.ntmps16
  go_wp2
  go_loopw [5, 10] (fun v i wr => ∃ j : Nat, j ≤ n ∧ i = .int .i64 j ∧ Row wr w.heap.size 3 1 v (behind es m j).length ((behind es m j).map (Value.int .i64)) ∧ Below w.heap.size w wr) (fun _ i _ => n - (intOf i).toNat)
  case atStart => exact ⟨0, by omega, rfl, by rw [behind_zero]; exact Row.nil _ _ _ _, Below.refl _ _⟩
  case round =>
    obtain ⟨j, hj, rfl, hrow, hbw⟩ := hrel
    have hbl := behind_len es m j
    have hsz := hbw.size
    have hsk := HL.out
    by_cases hlt : j < n
    · obtain ⟨b2, q2, rfl, hbb2, k0, k1⟩ := RE.at_ (RS.below' h hbw hB) hlt
      have hjn : (j : Int) < n := by omega
      have hbr : b2 < wr.heap.size := by omega
      have HBS := Lib.hid (behind_succ es m j (by omega))
      generalize es.getD j (0, 0) = e at *
      obtain ⟨a, z⟩ := e
      dsimp only at k0 k1
      have HB1 := Lib.hid (hbw.alloc hsz (.cells #[.int .i64 a, .int .i64 z] 37))
      obtain ⟨A8, c8, rfl, hc8, -⟩ := hrow.shape
      by_cases hao : a = m
      · have HBS2 := Lib.hid (HBS.out.trans (by rw [if_pos hao]))
        subst hao
        obtain ⟨N, hN⟩ : ∃ N, N = (behind es a j).length := ⟨_, rfl⟩
        have hNN := Lib.hid hN
        rw [← hN] at hc8 hbl
        have hrw := hrow.alloc (.cells #[.int .i64 a, .int .i64 z] 37)
        rw [← hN] at hrw ⊢
        have hN3 : N ≤ 4096 := by omega
        clear hrow hN HBS hbw
        go_wp2_with (at_builtin; refine wpList_append_row _ rfl (.tmp 18) (.tmp 21) 23 rfl w.heap.size 3 i0 (.int .i64 0) 1 8 Try.underlying23 hi hz0 hz1 hz2 rfl (by decide) (.slice A8 N c8) N ((behind es a j).map (Value.int .i64)) rfl (hrw.alloc _) (wr.heap.size + 2) (some ⟨wr.heap.size + 1, 0, none⟩) 1 1 [.int .i64 z] rfl (reads_two wr _ _ 3) (by simp [Value.oneCell']) (by unfold maxLen; omega) (by omega) (by simp; omega) ?_)
        intro A9 c9 w9 hr9 hg9 ho9
        have hl9 : (behind es a (j + 1)).length = N + 1 := by rw [HBS2.out, List.length_append, ← hNN.out]; rfl
        have hr9' : Row w9 w.heap.size 3 1 (.slice A9 (behind es a (j + 1)).length c9) (behind es a (j + 1)).length ((behind es a (j + 1)).map (Value.int .i64)) := by
          rw [hl9, HBS2.out]; simpa using hr9
        have HB9 := Lib.hid ((HB1.out.alloc HB1.out.size (.cells #[.int .i64 z] 3)).grown hg9 (by simp; omega) (fun k hk => (hrw.lt k hk).1))
        rw [hl9] at hr9'
        have HR9 := Lib.hid hr9'
        have HL9 := Lib.hid hl9
        clear hl9 hr9 hr9' hg9 ho9 hrw
        go_wp2
        go_roundw
        case rel => exact ⟨j + 1, by omega, by go_num, by rw [HL9.out]; exact HR9.out, HB9.out⟩
        case measure => simp [intOf]; omega
      · have HBS2 := Lib.hid (HBS.out.trans (by rw [if_neg hao, List.append_nil]))
        have d : (a == m) = false := by simpa using hao
        have HR1 := Lib.hid (hrow.alloc (.cells #[.int .i64 a, .int .i64 z] 37))
        clear hao hrow hbw HBS
        go_wp2
        go_roundw
        case rel => exact ⟨j + 1, by omega, by go_num, by rw [HBS2.out]; exact HR1.out, HB1.out⟩
        case measure => simp [intOf]; omega
    · obtain rfl : j = n := by omega
      obtain ⟨A8, c8, rfl, hc8, -⟩ := hrow.shape
      have HM : Hid (∀ x, x ∈ behind es m j ↔ (m, x) ∈ es) := Lib.hid (fun x => behind_mem HL.out.symm)
      generalize behind es m j = zs at *
      have hlt0 := hrow.lt
      have HS := Lib.hid (sort29 A8 zs.length c8 w.heap.size zs wr hrow (by omega))
      have HBW := Lib.hid hbw
      clear hrow hbw
      obtain ⟨N, hN⟩ : ∃ N, N = zs.length := ⟨_, rfl⟩
      have hNN := Lib.hid hN
      rw [← hN] at HS hlt0 hc8 hbl ⊢
      clear hN
      go_wp2_with (go_at_call 29; refine HS.out.mono ?_; rintro e w5 ⟨rfl, hr5, hf5⟩)
      have HB5 := Lib.hid (HBW.out.trans (hf5.below (B := w.heap.size) hsz (fun k hk => (hlt0 k hk).1)))
      have hlt5 := hr5.lt
      have HS5 := Lib.hid (compact30 A8 N c8 w.heap.size _ w5 hr5 (by omega))
      clear hr5 hf5
      go_wp2_with (go_at_call 30; refine HS5.out.mono ?_; rintro e w6 ⟨M, rfl, hM, hr6, hf6⟩)
      go_ret
      have hle := compact_le (zs.mergeSort fun x y => decide (x ≤ y))
      rw [List.length_mergeSort] at hle
      refine ⟨_, Lib.compact (zs.mergeSort fun x y => decide (x ≤ y)), rfl, by rw [← hM]; exact hr6, HB5.out.trans (hf6.below (B := w.heap.size) HB5.out.size (fun k hk => (hlt5 k hk).1)), fun x => ?_, by have := hNN.out; omega⟩
      rw [compact_mem, List.mem_mergeSort]
      exact HM.out x
end Go.Proofs.Ytmfalafolpfhiaa
