/- Locks by tickets: the plain law of who stands in the row. -/
import Derived.Below
namespace Go.Proofs.Ytjcbnanajelpjaa
set_option linter.unusedVariables false
set_option linter.unusedSimpArgs false
theorem nd_len : ∀ (n : Nat) (l : List Int), l.Nodup → (∀ x ∈ l, 0 ≤ x ∧ x < n) → l.length ≤ n
  | 0, l, _, h => by
    cases l with
    | nil => simp
    | cons a l => have := h a (by simp); omega
  | n + 1, l, hn, h => by
    have h1 := nd_len n (l.erase n) (hn.erase _) (fun x hx => by
      have hx' := (hn.mem_erase_iff).1 hx
      have := h x hx'.2
      have : x ≠ n := hx'.1
      omega)
    have := List.length_erase_le (a := (n : Int)) (l := l)
    by_cases hm : (n : Int) ∈ l
    · rw [List.length_erase_of_mem hm] at h1; omega
    · rw [List.erase_of_not_mem hm] at h1; omega
structure LInv (row : List Int) (nx cl : Int) (hs : List Bool) (tk : List Int) : Prop where
  mem : ∀ x ∈ row, 0 ≤ x ∧ x < 4
  nd : row.Nodup
  has : ∀ i : Nat, i < 4 → hs.getD i false = row.contains (i : Int)
  tick : ∀ j : Nat, j < row.length → tk.getD (row.getD j 0).toNat 0 = (cl + j) % 65536
  next : nx = (cl + row.length) % 65536
section
variable {row : List Int} {nx cl : Int} {hs : List Bool} {tk : List Int}
theorem LInv.len (h : LInv row nx cl hs tk) : row.length ≤ 4 := nd_len 4 row h.nd (fun x hx => by have := h.mem x hx; omega)
theorem getD_mem {row : List Int} {j : Nat} (hj : j < row.length) : row.getD j 0 ∈ row := by
  simp [List.getD, List.getElem?_eq_getElem hj]
theorem nd_inj {row : List Int} (hn : row.Nodup) {i j : Nat} (hi : i < row.length) (hj : j < row.length) (h : row.getD i 0 = row.getD j 0) : i = j := by
  simp [List.getD, List.getElem?_eq_getElem hi, List.getElem?_eq_getElem hj] at h
  exact (List.getElem_inj hn).1 h
theorem mem_at {row : List Int} {x : Int} (h : x ∈ row) : ∃ j, j < row.length ∧ row.getD j 0 = x := by
  obtain ⟨j, hj, e⟩ := List.mem_iff_getElem.1 h
  exact ⟨j, hj, by simp [List.getD, List.getElem?_eq_getElem hj, e]⟩
/-- Who has the m-th ticket. -/
theorem LInv.who (h : LInv row nx cl hs tk) (m : Nat) (hm : m < row.length) (i : Nat) (hi : i < 4) : (hs.getD i false && (tk.getD i 0 == (cl + m) % 65536)) = decide (row.getD m 0 = i) := by
  have hl := h.len
  rw [h.has i hi]
  by_cases hc : (i : Int) ∈ row
  · obtain ⟨j, hj, e⟩ := mem_at hc
    have ht := h.tick j hj
    rw [e] at ht
    rw [show ((i : Int)).toNat = i by omega] at ht
    rw [ht]
    have h1 : row.contains (i : Int) = true := by simpa using hc
    rw [h1, Bool.true_and, Bool.eq_iff_iff]
    simp only [beq_iff_eq, decide_eq_true_eq]
    constructor
    · intro h2
      have : j = m := by omega
      rw [← this]; exact e
    · intro h2
      have := nd_inj h.nd hj hm (e.trans h2.symm)
      rw [this]
  · have h1 : row.contains (i : Int) = false := by simpa using hc
    rw [h1, Bool.false_and]
    symm
    rw [decide_eq_false_iff_not]
    intro e
    exact hc (e ▸ getD_mem hm)
theorem LInv.mine (h : LInv row nx cl hs tk) (hcl : 0 ≤ cl ∧ cl < 65536) (i : Nat) (hi : i < 4) : (hs.getD i false && (tk.getD i 0 == cl)) = (decide (0 < row.length) && decide (row.getD 0 0 = i)) := by
  by_cases h0 : 0 < row.length
  · have := h.who 0 h0 i hi
    rw [show (cl + ((0 : Nat) : Int)) % 65536 = cl by omega] at this
    rw [this]; simp [h0]
  · have : row = [] := List.eq_nil_of_length_eq_zero (by omega)
    subst this
    rw [h.has i hi]; simp
theorem LInv.stop (h : LInv row nx cl hs tk) (m : Nat) (hm : m ≤ row.length) : ((cl + m) % 65536 = nx) ↔ m = row.length := by
  have hl := h.len
  rw [h.next]
  omega
theorem LInv.start (x : Int) (hx : 0 ≤ x ∧ x < 65536) : LInv [] x x [false, false, false, false] [0, 0, 0, 0] := by
  refine ⟨by simp, by simp, fun i hi => ?_, by simp, by simp; omega⟩
  rcases (by omega : i = 0 ∨ i = 1 ∨ i = 2 ∨ i = 3) with rfl | rfl | rfl | rfl <;> simp
theorem getD_set {α : Type} {l : List α} {i j : Nat} {a d : α} (hi : i < l.length) : (l.set i a).getD j d = if i = j then a else l.getD j d := by
  simp only [List.getD, List.getElem?_set]
  by_cases h : i = j
  · subst h; simp [hi]
  · simp [h]
theorem LInv.take (h : LInv row nx cl hs tk) (hl : hs.length = 4) (tl : tk.length = 4) (i : Nat) (hi : i < 4) (hc : row.contains (i : Int) = false) : LInv (row ++ [(i : Int)]) ((nx + 1) % 65536) cl (hs.set i true) (tk.set i nx) := by
  have hn : (i : Int) ∉ row := by simpa using hc
  refine ⟨fun x hx => ?_, ?_, fun j hj => ?_, fun j hj => ?_, ?_⟩
  · rcases List.mem_append.1 hx with h1 | h1
    · exact h.mem x h1
    · simp at h1; omega
  · rw [List.nodup_append]
    refine ⟨h.nd, by simp, fun a ha b hb => ?_⟩
    simp at hb
    subst hb
    exact fun e => hn (e ▸ ha)
  · rw [getD_set (by omega)]
    by_cases e : i = j
    · subst e; simp
    · rw [if_neg e, h.has j hj]
      have : ¬ ((j : Int) = i) := by omega
      simp [this]
  · simp at hj
    by_cases hj' : j < row.length
    · have e1 : (row ++ [(i : Int)]).getD j 0 = row.getD j 0 := by simp [List.getD, List.getElem?_append_left hj']
      rw [e1]
      have hm := h.mem _ (getD_mem hj')
      have hne : row.getD j 0 ≠ i := fun e => hn (e ▸ getD_mem hj')
      rw [getD_set (by omega), if_neg (by omega)]
      exact h.tick j hj'
    · have : j = row.length := by omega
      subst this
      have e1 : (row ++ [(i : Int)]).getD row.length 0 = i := by simp [List.getD]
      rw [e1, getD_set (by omega), if_pos (by omega)]
      exact h.next
  · rw [h.next]; simp; omega
theorem LInv.free {i : Nat} (h : LInv ((i : Int) :: row) nx cl hs tk) (hl : hs.length = 4) (hi : i < 4) : LInv row nx ((cl + 1) % 65536) (hs.set i false) tk := by
  have hnd := List.nodup_cons.1 h.nd
  refine ⟨fun x hx => h.mem x (by simp [hx]), hnd.2, fun j hj => ?_, fun j hj => ?_, ?_⟩
  · rw [getD_set (by omega)]
    by_cases e : i = j
    · subst e
      simp
      exact hnd.1
    · rw [if_neg e, h.has j hj]
      have : ¬ ((j : Int) = i) := by omega
      simp [this]
  · have := h.tick (j + 1) (by simp; omega)
    simp only [List.getD_cons_succ] at this
    rw [this]; omega
  · rw [h.next]; simp; omega
end
end Go.Proofs.Ytjcbnanajelpjaa
