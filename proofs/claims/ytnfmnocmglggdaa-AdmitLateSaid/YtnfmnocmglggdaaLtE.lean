/- sort.Slice at a row of jobs. -/
import Derived.Test.YtnfmnocmglggdaaLtD
namespace Go.Proofs.Ytnfmnocmglggdaa
open Go.RowKit
set_option maxHeartbeats 400000
set_option linter.unusedVariables false
set_option linter.unusedSimpArgs false
theorem encJ_len (x : Nat × Nat × Nat) : (encJ x).length = 3 := rfl
theorem flatJ_len (js : List (Nat × Nat × Nat)) : (js.flatMap encJ).length = js.length * 3 := by
  induction js with
  | nil => rfl
  | cons a l ih => rw [List.flatMap_cons, List.length_append, ih, encJ_len, List.length_cons]; omega
theorem flatJ_at : ∀ (js : List (Nat × Nat × Nat)) (t : Nat), t < js.length * 3 → (js.flatMap encJ)[t]? = some ((encJ (js.getD (t / 3) default))[t % 3]!) := by
  intro js
  induction js with
  | nil => intro t h; simp at h
  | cons a l ih =>
    intro t h
    rw [List.length_cons] at h
    rw [List.flatMap_cons]
    by_cases h3 : t < 3
    · rw [List.getElem?_append_left (by rw [encJ_len]; exact h3)]
      have e1 : t / 3 = 0 := by omega
      have e2 : t % 3 = t := by omega
      rw [e1, e2]
      have : (a :: l).getD 0 default = a := rfl
      rw [this]
      have hl : t < (encJ a).length := by rw [encJ_len]; exact h3
      simp [List.getElem?_eq_getElem hl, hl]
    · rw [List.getElem?_append_right (by rw [encJ_len]; omega), encJ_len, ih (t - 3) (by omega)]
      have e1 : t / 3 = (t - 3) / 3 + 1 := by omega
      have e2 : t % 3 = (t - 3) % 3 := by omega
      rw [e1, e2]
      rfl
theorem getBang (js : List (Nat × Nat × Nat)) (t : Nat) : js.toArray[t]! = js.getD t default := by
  by_cases h : t < js.length
  · simp [List.getD, h]
  · simp [List.getD, h]
open Go.Sort Go.Lib in
theorem sort_jobs (A : Option Addr) (n c B Bs : Nat) (js : List (Nat × Nat × Nat)) (w : World) (h : Row w B 39 3 (.slice A n c) n (js.flatMap encJ)) (hl : js.length = n) (hn : n < 4611686018427387904)
    (hBs : w.cell? ⟨Bs, 0, none⟩ = some (.slice A n c)) (hB1 : Bs < w.heap.size) (hB2 : ∀ g, (Value.slice A n c).ownBlock = some g → Bs ≠ g) :
    Calls Try.prog 10 #[.iface 37 (.slice A n c), .func (.func 11) #[] #[.pointer (some ⟨Bs, 0, none⟩)]] w fun e w' =>
      e = .returned (.tuple #[]) ∧ ∃ js' : List (Nat × Nat × Nat), js'.Perm js ∧ (∀ i j, i < j → j < n → ltJ (js'.getD j default) (js'.getD i default) = false) ∧ Row w' B 39 3 (.slice A n c) n (js'.flatMap encJ) ∧ Fr (fun k => (Value.slice A n c).ownBlock = some k) w w' := by
  by_cases h1 : n ≤ 1
  · obtain ⟨iT, hT1, hT2⟩ := Try.svT
    have hf : ∃ f, Try.prog.funcs.findIdx? (·.name == "internal/reflectlite" ++ ".Swapper$" ++ toString (swapperK n Try.svE 25)) = some f := by
      rcases Nat.eq_zero_or_pos n with h0 | h0
      · subst h0
        exact ⟨17, by kernel_rfl⟩
      · obtain rfl : n = 1 := by omega
        exact ⟨18, by kernel_rfl⟩
    obtain ⟨f, hf⟩ := hf
    refine (Any.sort_Slice_tiny Try.sv6 37 39 iT Try.svE hT1 hT2 (by kernel_rfl) (by kernel_rfl) 25 (fun _ => by kernel_rfl) A n c h1 f hf (.func 11) #[] #[.pointer (some ⟨Bs, 0, none⟩)] w).mono ?_
    rintro e w' ⟨rfl, os, rfl⟩
    have hfr : ∀ S, Fr S w (grow w os) := fun S => ⟨rfl, rfl, rfl, by simp, fun k hk _ => Go.Sort.heap_grow_old _ _ hk⟩
    exact ⟨rfl, js, List.Perm.refl _, fun i j hij hj => by omega, h.fr (hfr (fun _ => False)) (fun _ _ hh => hh), hfr _⟩
  · obtain ⟨g1, g2⟩ := h
    rcases g2 with ⟨e, h3⟩ | ⟨g, o, cap, cur, e, hb, hg, hnc, hcm, hsz, hx⟩
    · omega
    · injection e with e1 e2 e3
      subst e1; subst e3
      have hsd : js.toArray.size = n := by simpa using hl
      have hH : HoldsK encJ 3 w g o js.toArray := fun t ht => by
        rw [size_flatK, hsd] at ht
        refine ⟨?_, frozen_of_row w g (o + t) cur 39 hg⟩
        rw [cell_of_row w g (o + t) cur 39 (0, 0) hg, get_flatK _ _ _ t (by rw [hsd]; exact ht), getBang]
        exact hx t _ (flatJ_at js t (by rw [hl]; exact ht))
      have hgl := lt_blk hg
      have hs := sort_many g o c Bs js.toArray (by rw [hsd]; omega) (by rw [hsd]; exact hn) w hH hgl (by rw [hsd]; exact hBs) hB1 (hB2 g rfl)
      rw [hsd] at hs
      refine hs.mono ?_
      rintro e w' ⟨rfl, d', m, os, hp, hso, rfl⟩
      have hds : d'.size = n := by rw [hp.1, hsd]
      have hpm : d'.toList.Perm js := by
        have := hp.2.2
        rw [Array.extract_eq_self_of_le (by rw [hds]; exact Nat.le_refl _), Array.extract_eq_self_of_le (by rw [hsd]; exact Nat.le_refl _)] at this
        simpa using this
      have hg' : (grow (putRowK encJ 3 (Sort.ahead w m) g o d') os).heap[g]? = some (.cells (putCells id o (flatK encJ 3 d') cur) 39 (0, 0)) := by
        rw [Go.Sort.heap_grow_old _ _ (by unfold putRowK; simpa using hgl)]
        simp [putRowK, putRow, mapBlock, Sort.ahead, Array.getElem?_modify, hg, onCells]
      have hgd : ∀ t, d'.toList.getD t default = d'[t]! := fun t => by
        rw [← getBang]
      refine ⟨rfl, d'.toList, hpm, fun i j hij hj => ?_, ⟨?_, .inr ⟨g, o, c, _, rfl, hb, hg', hnc, hcm, by simpa [putCells] using hsz, fun j u hu => ?_⟩⟩, ⟨rfl, rfl, rfl, by unfold putRowK; simp, fun k hk hne => ?_⟩⟩
      · rw [hgd, hgd]; exact hso i j (Nat.zero_le _) hij hj
      · rw [flatJ_len]; simp [hds]
      · have hj : j < n * 3 := by
          rcases Nat.lt_or_ge j (n * 3) with hj | hj
          · exact hj
          · rw [List.getElem?_eq_none (by rw [flatJ_len]; simpa [hds] using hj)] at hu; cases hu
        rw [flatJ_at _ j (by simpa [hds] using hj)] at hu
        injection hu with hu
        subst hu
        have ho : o + j < cur.size := by
          have : n * 3 ≤ c * 3 := Nat.mul_le_mul_right _ hnc
          omega
        rw [hgd, ← get_flatK encJ 3 d' j (by rw [hds]; exact hj)]
        simp [putCells, ho, hds, hj]
      · rw [Go.Sort.heap_grow_old _ _ (by unfold putRowK; simpa using hk)]
        have : g ≠ k := fun e => hne (by rw [e]; rfl)
        simp [putRowK, putRow, mapBlock, Sort.ahead, Array.getElem?_modify, this]
end Go.Proofs.Ytnfmnocmglggdaa
