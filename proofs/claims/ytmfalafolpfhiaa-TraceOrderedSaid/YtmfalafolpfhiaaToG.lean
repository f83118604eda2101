/- slices.SortFunc at a row of edges; slices.Compact there. -/
import Derived.Test.YtmfalafolpfhiaaToF
namespace Go.Proofs.Ytmfalafolpfhiaa
open Go.RowKit
set_option maxHeartbeats 400000
set_option linter.unusedVariables false
set_option linter.unusedSimpArgs false
theorem flatE_at : ∀ (js : List (Int × Int)) (t : Nat), t < js.length * 2 → (js.flatMap edgeCl)[t]? = some ((edgeCl (js.getD (t / 2) default))[t % 2]!) := by
  intro js
  induction js with
  | nil => intro t h; simp at h
  | cons a l ih =>
    intro t h
    rw [List.length_cons] at h
    rw [List.flatMap_cons]
    have hal : (edgeCl a).length = 2 := rfl
    by_cases h3 : t < 2
    · rw [List.getElem?_append_left (by rw [hal]; exact h3)]
      have e1 : t / 2 = 0 := by omega
      have e2 : t % 2 = t := by omega
      rw [e1, e2]
      have : (a :: l).getD 0 default = a := rfl
      rw [this]
      have hl : t < (edgeCl a).length := by rw [hal]; exact h3
      simp [List.getElem?_eq_getElem hl, hl]
    · rw [List.getElem?_append_right (by rw [hal]; omega), hal, ih (t - 2) (by omega)]
      have e1 : t / 2 = (t - 2) / 2 + 1 := by omega
      have e2 : t % 2 = (t - 2) % 2 := by omega
      rw [e1, e2]
      rfl
theorem getBangE (js : List (Int × Int)) (t : Nat) : js.toArray[t]! = js.getD t default := by
  by_cases h : t < js.length
  · simp [List.getD, h]
  · simp [List.getD, h]
open Go.Sort Go.Lib in
theorem sort_row (A : Option Addr) (n c B : Nat) (js : List (Int × Int)) (w : World) (h : Row w B 37 2 (.slice A n c) n (js.flatMap edgeCl)) (hl : js.length = n) (hn : n < 4611686018427387904) :
    Calls Try.prog 21 #[.slice A n c, .func (.func 22) #[] #[]] w fun e w' =>
      e = .returned (.tuple #[]) ∧ Row w' B 37 2 (.slice A n c) n ((js.mergeSort leE).flatMap edgeCl) ∧ Fr (fun k => (Value.slice A n c).ownBlock = some k) w w' := by
  have hml : (js.mergeSort leE).length = n := by rw [List.length_mergeSort]; exact hl
  by_cases h0 : n = 0
  · subst h0
    have : js = [] := List.eq_nil_of_length_eq_zero hl
    subst this
    refine (sort_none A c _ w).mono ?_
    rintro e w' ⟨rfl, rfl⟩
    exact ⟨rfl, by simpa using h, Fr.refl _ _⟩
  · obtain ⟨g1, g2⟩ := h
    rcases g2 with ⟨e, h3⟩ | ⟨g, o, cap, cur, e, hb, hg, hnc, hcm, hsz, hx⟩
    · exact absurd h3 h0
    · injection e with e1 e2 e3
      subst e1; subst e3
      have hsd : js.toArray.size = n := by simpa using hl
      have hH : HoldsK edgeCl 2 w g o js.toArray := fun t ht => by
        rw [size_flatK, hsd] at ht
        refine ⟨?_, frozen_of_row w g (o + t) cur 37 hg⟩
        rw [cell_of_row w g (o + t) cur 37 (0, 0) hg, get_flatK _ _ _ t (by rw [hsd]; exact ht), getBangE]
        exact hx t _ (flatE_at js t (by rw [hl]; exact ht))
      have hgl := lt_blk hg
      have hs := sort_at g o c js.toArray (by rw [hsd]; exact hn) w hH hgl
      rw [hsd] at hs
      refine hs.mono ?_
      rintro e w' ⟨rfl, m, os, rfl⟩
      have e0 : js.toArray.toList = js := rfl
      rw [e0]
      generalize js.mergeSort leE = d' at *
      have hds : d'.toArray.size = n := by simpa using hml
      have hg' : (grow (putRowK edgeCl 2 (Sort.ahead w m) g o d'.toArray) os).heap[g]? = some (.cells (putCells id o (flatK edgeCl 2 d'.toArray) cur) 37 (0, 0)) := by
        rw [Go.Sort.heap_grow_old _ _ (by unfold putRowK; simpa using hgl)]
        simp [putRowK, putRow, mapBlock, Sort.ahead, Array.getElem?_modify, hg, onCells]
      refine ⟨rfl, ⟨?_, .inr ⟨g, o, c, _, rfl, hb, hg', hnc, hcm, by simpa [putCells] using hsz, fun j u hu => ?_⟩⟩, ⟨rfl, rfl, rfl, by unfold putRowK; simp, fun k hk hne => ?_⟩⟩
      · rw [edges_len, hml]
      · have hj : j < n * 2 := by
          rcases Nat.lt_or_ge j (n * 2) with hj | hj
          · exact hj
          · rw [List.getElem?_eq_none (by rw [edges_len, hml]; exact hj)] at hu; cases hu
        rw [flatE_at _ j (by rw [hml]; exact hj)] at hu
        injection hu with hu
        subst hu
        have ho : o + j < cur.size := by
          have : n * 2 ≤ c * 2 := Nat.mul_le_mul_right _ hnc
          omega
        rw [← getBangE, ← get_flatK edgeCl 2 d'.toArray j (by rw [hds]; exact hj)]
        have hj2 : j < d'.length * 2 := by rw [hml]; exact hj
        simp [putCells, ho, hj2]
      · rw [Go.Sort.heap_grow_old _ _ (by unfold putRowK; simpa using hk)]
        have : g ≠ k := fun e => hne (by rw [e]; rfl)
        simp [putRowK, putRow, mapBlock, Sort.ahead, Array.getElem?_modify, this]
end Go.Proofs.Ytmfalafolpfhiaa
