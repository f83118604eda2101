/- Contract of sort.Slice as ringref1.Late calls it. -/
import Derived.Test.YtnfmnocmglggdaaLtB
import Derived.Test.YtnfmnocmglggdaaOwn
import Derived.Ground.GgsProg
import Derived.Shelf.Lay
import Derived.Shelf.GgSortFunc.Tiny
import Derived.Shelf.SlSortFuncK.WholeK
namespace Go.Proofs
open Go.Shelf
shelf_lay LaysGg.n6 Ggs 6 at Try as Try.sv6
end Go.Proofs
namespace Go.Proofs.Ytnfmnocmglggdaa
open Go.RowKit
set_option maxHeartbeats 400000
set_option linter.unusedVariables false
set_option linter.unusedSimpArgs false
def encJ (x : Nat × Nat × Nat) : List Value := [.int .i64 (x.1 : Int), .int .i64 (x.2.1 : Int), .int .i64 (x.2.2 : Int)]
def ltJ (a b : Nat × Nat × Nat) : Bool := decide (a.2.1 < b.2.1 ∨ (a.2.1 = b.2.1 ∧ a.2.2 < b.2.2))
open Go.Sort in
theorem swo_ltJ : SWO ltJ where
  irrefl := fun x => by simp [ltJ]
  trans := fun x y z h1 h2 => by simp only [ltJ, decide_eq_true_eq] at *; omega
  ntrans := fun x y z h1 h2 => by simp only [ltJ, decide_eq_false_iff_not] at *; omega
set_option maxHeartbeats 2000000 in
set_option maxRecDepth 100000 in
theorem less_any (blk off c Bs size : Nat) (W : World) (G : Nat → Nat × Nat × Nat) (hs : W.cell? ⟨Bs, 0, none⟩ = some (.slice (some ⟨blk, off, none⟩) size c))
    (hc1 : ∀ t, t < size → W.cell? ⟨blk, off + t * 3 + 1, none⟩ = some (.int .i64 ((G t).2.1 : Int))) (hc2 : ∀ t, t < size → W.cell? ⟨blk, off + t * 3 + 2, none⟩ = some (.int .i64 ((G t).2.2 : Int))) (i j : Nat) (hi : i < size) (hj : j < size) (_hsz : size < 4611686018427387904) :
    Calls Try.prog 11 #[.int .i64 i, .int .i64 j, .pointer (some ⟨Bs, 0, none⟩)] W fun e w' => e = .returned (.bool (ltJ (G i) (G j))) ∧ ∃ q, w' = W.drewN q := by
  have ci1 := hc1 i hi
  have ci2 := hc2 i hi
  have cj1 := hc1 j hj
  have cj2 := hc2 j hj
  clear hc1 hc2
  have HV : Hid (ltJ (G i) (G j) = decide ((G i).2.1 < (G j).2.1 ∨ ((G i).2.1 = (G j).2.1 ∧ (G i).2.2 < (G j).2.2))) := Lib.hid rfl
  generalize ltJ (G i) (G j) = lv at *
  generalize (G i).2.1 = a1 at *
  generalize (G i).2.2 = a2 at *
  generalize (G j).2.1 = b1 at *
  generalize (G j).2.2 = b2 at *
  by_cases h1 : a1 < b1
  · have HL : Hid (lv = true) := Lib.hid (by rw [HV.out]; simp [h1])
    go_enter Try.func11, Try.ntmps11
    go_wp2
    go_quiet (fail)
    go_wp2
    go_ret
    exact ⟨by rw [HL.out]; rfl, nq, rfl⟩
  by_cases h2 : a1 = b1
  · subst h2
    by_cases h3 : a2 < b2
    · have HL : Hid (lv = true) := Lib.hid (by rw [HV.out]; simp [h3])
      go_enter Try.func11, Try.ntmps11
      go_wp2
      go_quiet (fail)
      go_wp2
      go_ret
      exact ⟨by rw [HL.out]; simp [h3], nq, rfl⟩
    · have HL : Hid (lv = false) := Lib.hid (by rw [HV.out]; simp [h3])
      go_enter Try.func11, Try.ntmps11
      go_wp2
      go_quiet (fail)
      go_wp2
      go_ret
      exact ⟨by rw [HL.out]; simp [h3], nq, rfl⟩
  · have HL : Hid (lv = false) := Lib.hid (by rw [HV.out]; simp [h1, h2])
    have e1 : ((a1 : Int) == (b1 : Int)) = false := by simp; omega
    have e2 : (a1 == b1) = false := by simp [h2]
    have e3 : decide (a1 = b1) = false := by simp [h2]
    go_enter Try.func11, Try.ntmps11
    go_wp2
    go_quiet (fail)
    go_wp2
    go_ret
    exact ⟨by rw [HL.out]; simp [h1, h2], nq, rfl⟩
theorem Try.svT : ∃ i, Try.prog.info? 37 = some i ∧ i.desc = .slice 39 := ⟨(Try.prog.info? 37).get (by kernel_rfl), by kernel_rfl, by kernel_rfl⟩
noncomputable def Try.svE : TypeInfo := (Try.prog.info? 39).get (by kernel_rfl)
theorem Try.svK (n : Nat) (h2 : 2 ≤ n) : Lib.swapperK n Try.svE 25 = 9 := by
  have a : Try.svE.hasPointers = false := by kernel_rfl
  have b : Try.svE.bytes = 24 := by kernel_rfl
  have c : (n == 0) = false := by simp; omega
  have d : (n == 1) = false := by simp; omega
  simp [Lib.swapperK, a, b, c, d]
open Go.Sort Go.Lib in
theorem sort_many (blk off c Bs : Nat) (d : Array (Nat × Nat × Nat)) (h2 : 2 ≤ d.size) (hsz : d.size < 4611686018427387904) (w : World) (hH : HoldsK encJ 3 w blk off d) (hblk : blk < w.heap.size)
    (hBs : w.cell? ⟨Bs, 0, none⟩ = some (.slice (some ⟨blk, off, none⟩) d.size c)) (hB1 : Bs < w.heap.size) (hB2 : Bs ≠ blk) :
    Calls Try.prog 10 #[.iface 37 (.slice (some ⟨blk, off, none⟩) d.size c), .func (.func 11) #[] #[.pointer (some ⟨Bs, 0, none⟩)]] w fun e w' =>
      e = .returned (.tuple #[]) ∧ ∃ d' n os, PermIn 0 d.size d d' ∧ SortedIn ltJ 0 d.size d' ∧ w' = grow (putRowK encJ 3 (Sort.ahead w n) blk off d') os := by
  have hless : LessReadsK Try.prog 11 #[.pointer (some ⟨Bs, 0, none⟩)] encJ 3 ltJ blk off d.size w := by
    intro m os dk hs i j hi hj
    have e : sortWorldK encJ 3 w blk off m dk os = putRowK encJ 3 (grow (Sort.ahead w m) os) blk off dk := by
      unfold sortWorldK; rw [putRowK_grow _ _ (Sort.ahead w m) _ blk off _ hblk]
    have hHg : HoldsK encJ 3 (grow (Sort.ahead w m) os) blk off d := holdsK_grow _ _ _ _ blk off d hblk (holdsK_ahead _ _ _ _ _ _ _ hH)
    refine less_any blk off c Bs d.size _ (fun t => dk[t]!) ?_ (fun t ht => ?_) (fun t ht => ?_) i j hi hj (by omega)
    · rw [e, cell?_putRowK_other _ _ _ blk off dk _ (by exact hB2), cell?_grow _ _ _ (by exact hB1)]; exact hBs
    · rw [e]; exact ((holdsK_putRowK _ _ _ blk off d dk hHg hs).cell (i := t) (c := 1) (by omega) (by omega)).1
    · rw [e]; exact ((holdsK_putRowK _ _ _ blk off d dk hHg hs).cell (i := t) (c := 2) (by omega) (by omega)).1
  obtain ⟨iT, hT1, hT2⟩ := Try.svT
  exact Any.sort_Slice_cells_sorted Try.sv6 37 39 iT Try.svE hT1 hT2 (by kernel_rfl) (by kernel_rfl) 25 (fun _ => by kernel_rfl) encJ 3 (fun _ => rfl) (by kernel_rfl) (fun _ => by kernel_rfl)
    (fun x v hv => by simp [encJ] at hv; rcases hv with rfl | rfl | rfl <;> rfl) ltJ swo_ltJ 11 _
    (enters_of Try.func11 (by kernel_rfl) rfl) blk off c d h2 hsz 25 (by rw [Try.svK _ h2]; kernel_rfl) false
    (fun args W => run_callFunc_extern Try.func25 (by kernel_rfl) (by kernel_rfl) (by kernel_rfl) (e := Extern.ReflectliteSwapper.swap false) (by kernel_rfl) args W) w hless hH hblk
end Go.Proofs.Ytnfmnocmglggdaa
