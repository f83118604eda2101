/- Contract of sort.Ints by the shelf; a row that is sorted. -/
import Derived.Test.YtmfalafolpfhiaaRrC
import Derived.Shelf.Lay
import Derived.Shelf.Sort.Plain
import Derived.Shelf.Slices.In.SortNone2
import Derived.Ground.NamesProg
namespace Go.Proofs
open Go.Shelf
shelf_lay Lays.n191 Nm 191 at Try as Try.lays191
end Go.Proofs
namespace Go.Proofs.Ytmfalafolpfhiaa
open Go.RowKit Go.Maps
set_option maxHeartbeats 400000
set_option linter.unusedVariables false
set_option linter.unusedSimpArgs false
/-! the sort -/
open Go.Sort in
theorem sortInts_any (blk off cap : Nat) (zs : List Int) (w : World) (hH : Holds (Value.int .i64) w blk off zs.toArray) (hblk : blk < w.heap.size) (hsz : zs.length < 4611686018427387904) :
    Calls Try.prog 15 #[.slice (some ⟨blk, off, none⟩) zs.length cap] w fun e w' =>
      e = .returned (.tuple #[]) ∧ ∃ n os, w' = grow (putRow (Value.int .i64) (Sort.ahead w n) blk off (zs.mergeSort fun x y => decide (x ≤ y)).toArray) os := Any.sort_Ints Try.lays191 blk off cap zs w hH hblk hsz
/-! the sort of a row -/
open Go.Sort in
theorem sort_row (A : Option Addr) (n c B : Nat) (zs : List Int) (w : World) (h : Row w B 3 1 (.slice A n c) n (zs.map (Value.int .i64))) (hn : n < 4611686018427387904) (h0 : 0 < n) :
    Calls Try.prog 15 #[.slice A n c] w fun e w' => e = .returned (.tuple #[]) ∧ Row w' B 3 1 (.slice A n c) n ((zs.mergeSort fun x y => decide (x ≤ y)).map (Value.int .i64)) ∧ Fr (fun k => (Value.slice A n c).ownBlock = some k) w w' := by
  have hl : zs.length = n := by have := h.1; simpa using this
  obtain ⟨h1, h2⟩ := h
  rcases h2 with ⟨e, h3⟩ | ⟨g, o, cap, cur, e, hb, hg, hnc, hcm, hsz, hx⟩
  · omega
  · injection e with e1 e2 e3
    subst e1; subst e3
    have hcell : ∀ j, j < zs.length → w.cell? ⟨g, o + j, none⟩ = some (.int .i64 (zs.getD j 0)) := fun j hj => by
      rw [cell_of_row w g (o + j) cur 3 (0, 0) hg]
      exact hx j _ (by simp [List.getD, List.getElem?_eq_getElem hj])
    have hH : Holds (Value.int .i64) w g o zs.toArray := fun j hj => by
      have hj' : j < zs.length := by simpa using hj
      refine ⟨?_, frozen_of_row w g (o + j) cur 3 hg⟩
      rw [hcell j hj']
      simp [List.getD, hj']
    have hs := sortInts_any g o c zs w hH (lt_blk hg) (by omega)
    rw [hl] at hs
    refine hs.mono ?_
    rintro e w' ⟨rfl, m, os, rfl⟩
    generalize hss : (zs.mergeSort fun x y => decide (x ≤ y)) = ss
    have hsl : ss.length = n := by rw [← hss, List.length_mergeSort, hl]
    have hgl := lt_blk hg
    have hg' : (grow (putRow (Value.int .i64) (Sort.ahead w m) g o ss.toArray) os).heap[g]? = some (.cells (putCells (Value.int .i64) o ss.toArray cur) 3 (0, 0)) := by
      rw [heap_grow_old _ _ (by simpa using hgl)]
      simp [putRow, mapBlock, Sort.ahead, Array.getElem?_modify, hg, onCells]
    refine ⟨rfl, ⟨by simp [hsl], .inr ⟨g, o, c, _, rfl, hb, hg', hnc, hcm, by simpa [putCells] using hsz, fun j u hu => ?_⟩⟩, ⟨rfl, rfl, rfl, by simp, fun k hk hne => ?_⟩⟩
    · have hj : j < ss.length := by
        rcases Nat.lt_or_ge j ss.length with hj | hj
        · exact hj
        · rw [List.getElem?_eq_none (by simpa using hj)] at hu; cases hu
      have hu' : u = .int .i64 ss[j] := by rw [List.getElem?_map, List.getElem?_eq_getElem hj] at hu; simpa using hu.symm
      subst hu'
      have ho : o + j < cur.size := by omega
      simp [putCells, ho, hj]
    · rw [heap_grow_old _ _ (by simpa using hk)]
      have : g ≠ k := fun e => hne (by rw [e]; rfl)
      simp [putRow, mapBlock, Sort.ahead, Array.getElem?_modify, this]
theorem sort_none (p : Option Addr) (cap : Nat) (w : World) : Calls Try.prog 15 #[.slice p 0 cap] w fun e w' => e = .returned (.tuple #[]) ∧ w' = w := Any.sort_Ints_none Try.lays191 p cap w
end Go.Proofs.Ytmfalafolpfhiaa
