/- Plain law of pipes: sixteen slots, and the list of those that are there. -/
import Derived.Test.YthlhjaacjhlkhaaMem
namespace Go.Proofs.Ythlhjaacjhlkhaa
open Go.RowKit
set_option linter.unusedVariables false
set_option linter.unusedSimpArgs false
/-- A pipe: who reads, who writes, what is on its way. -/
structure Pp where
  r : Int
  w : Int
  bs : List Int
/-- The slots 0 to 15. -/
abbrev Fs := Nat → Option Pp
def put (F : Fs) (i : Nat) (x : Option Pp) : Fs := fun j => if j = i then x else F j
theorem put_same (F : Fs) (i : Nat) (x : Option Pp) : put F i x i = x := by simp [put]
theorem put_other (F : Fs) {i j : Nat} (h : j ≠ i) (x : Option Pp) : put F i x j = F j := by simp [put, h]
/-- A record of the list. -/
structure Pr where
  id : Int
  r : Int
  w : Int
  s : List Int
def Pr.zero : Pr := ⟨0, 0, 0, []⟩
def prOf (j : Nat) (p : Pp) : Pr := ⟨j + 1, p.r, p.w, p.bs⟩
/-- The records of n slots from i on. -/
def recs (F : Fs) (i n : Nat) : List Pr := (List.range' i n).filterMap fun j => (F j).map (prOf j)
def lo (F : Fs) (i : Nat) : List Pr := recs F 0 i
def hi (F : Fs) (i : Nat) : List Pr := recs F (i + 1) (15 - i)
def one (F : Fs) (i : Nat) : List Pr := match F i with | none => [] | some p => [prOf i p]
def allR (F : Fs) : List Pr := recs F 0 16
theorem recs_succ (F : Fs) (i n : Nat) : recs F i (n + 1) = one F i ++ recs F (i + 1) n := by
  unfold recs one
  rw [List.range'_succ, List.filterMap_cons]
  cases F i <;> rfl
theorem recs_add (F : Fs) : ∀ (n i m : Nat), recs F i (n + m) = recs F i n ++ recs F (i + n) m
  | 0, i, m => by simp [recs]
  | n + 1, i, m => by
    rw [show n + 1 + m = (n + m) + 1 by omega, recs_succ, recs_add F n (i + 1) m, recs_succ, List.append_assoc, show i + 1 + n = i + (n + 1) by omega]
theorem all_split (F : Fs) {i : Nat} (h : i < 16) : allR F = lo F i ++ (one F i ++ hi F i) := by
  unfold allR lo hi
  rw [show 16 = i + ((15 - i) + 1) by omega, recs_add, Nat.zero_add, recs_succ]
theorem recs_put (F : Fs) {i : Nat} (x : Option Pp) : ∀ (n j : Nat), (i < j ∨ j + n ≤ i) → recs (put F i x) j n = recs F j n
  | 0, j, _ => rfl
  | n + 1, j, h => by
    rw [recs_succ, recs_succ, recs_put F x n (j + 1) (by omega)]
    unfold one
    rw [put_other F (by omega)]
theorem lo_put (F : Fs) (i : Nat) (x : Option Pp) : lo (put F i x) i = lo F i := recs_put F x i 0 (by omega)
theorem hi_put (F : Fs) (i : Nat) (x : Option Pp) : hi (put F i x) i = hi F i := recs_put F x (15 - i) (i + 1) (by omega)
theorem one_some {F : Fs} {i : Nat} {p : Pp} (h : F i = some p) : one F i = [prOf i p] := by unfold one; rw [h]
theorem one_none {F : Fs} {i : Nat} (h : F i = none) : one F i = [] := by unfold one; rw [h]
theorem all_some {F : Fs} {i : Nat} {p : Pp} (h : i < 16) (hp : F i = some p) : allR F = lo F i ++ prOf i p :: hi F i := by rw [all_split F h, one_some hp]; rfl
theorem all_none {F : Fs} {i : Nat} (h : i < 16) (hp : F i = none) : allR F = lo F i ++ hi F i := by rw [all_split F h, one_none hp]; rfl
theorem all_put {F : Fs} {i : Nat} (p : Pp) (h : i < 16) : allR (put F i (some p)) = lo F i ++ prOf i p :: hi F i := by rw [all_some h (put_same F i _), lo_put, hi_put]
theorem all_del {F : Fs} {i : Nat} (h : i < 16) : allR (put F i none) = lo F i ++ hi F i := by rw [all_none h (put_same F i _), lo_put, hi_put]
/-- What a list of slots holds. -/
theorem recs_mem {F : Fs} {i n : Nat} {x : Pr} (h : x ∈ recs F i n) : ∃ j p, i ≤ j ∧ j < i + n ∧ F j = some p ∧ x = prOf j p := by
  unfold recs at h
  rw [List.mem_filterMap] at h
  obtain ⟨j, hj, he⟩ := h
  rw [List.mem_range'_1] at hj
  cases hF : F j with
  | none => rw [hF] at he; cases he
  | some p => rw [hF] at he; simp at he; exact ⟨j, p, hj.1, hj.2, hF, he.symm⟩
theorem lo_id {F : Fs} {i : Nat} {x : Pr} (h : x ∈ lo F i) : 1 ≤ x.id ∧ x.id ≤ i := by
  obtain ⟨j, p, h1, h2, _, rfl⟩ := recs_mem h
  simp only [prOf]; omega
theorem hi_id {F : Fs} {i : Nat} {x : Pr} (h : x ∈ hi F i) : (i : Int) + 2 ≤ x.id ∧ x.id ≤ 16 := by
  obtain ⟨j, p, h1, h2, _, rfl⟩ := recs_mem h
  simp only [prOf]
  refine ⟨by omega, ?_⟩
  have : i + 1 + (15 - i) ≤ 16 ∨ 15 < i := by omega
  rcases this with h | h <;> omega
theorem all_id {F : Fs} {x : Pr} (h : x ∈ allR F) : 1 ≤ x.id ∧ x.id ≤ 16 := by
  obtain ⟨j, p, h1, h2, _, rfl⟩ := recs_mem h
  simp only [prOf]; omega
theorem recs_len (F : Fs) (i n : Nat) : (recs F i n).length ≤ n := by
  unfold recs
  have := List.length_filterMap_le (fun j => (F j).map (prOf j)) (List.range' i n)
  simpa using this
/-- The slot of a number. -/
def at1 (F : Fs) (id : Int) : Option Pp := if 1 ≤ id ∧ id ≤ 16 then F (id - 1).toNat else none
theorem at1_some {F : Fs} {id : Int} {p : Pp} (h : at1 F id = some p) : ∃ i : Nat, i < 16 ∧ id = i + 1 ∧ F i = some p := by
  unfold at1 at h
  split at h
  · exact ⟨(id - 1).toNat, by omega, by omega, h⟩
  · cases h
/-- The place of a number in the list; below 0: it is not there. -/
def place (F : Fs) (id : Int) : Int := if (at1 F id).isSome then ((lo F (id - 1).toNat).length : Nat) else -1
theorem place_none {F : Fs} {id : Int} (h : ∀ x ∈ allR F, x.id ≠ id) : place F id = -1 := by
  unfold place
  cases ha : at1 F id with
  | none => rfl
  | some p =>
    obtain ⟨i, hi, rfl, hF⟩ := at1_some ha
    exact absurd rfl (h (prOf i p) (by rw [all_some hi hF]; simp))
theorem place_at {F : Fs} {id : Int} {k : Nat} (hk : k < (allR F).length) (he : ((allR F).getD k Pr.zero).id = id) (hb : ∀ j, j < k → ((allR F).getD j Pr.zero).id ≠ id) : place F id = k := by
  have hm : (allR F).getD k Pr.zero ∈ allR F := by
    rw [List.getD_eq_getElem?_getD, List.getElem?_eq_getElem hk]; exact List.getElem_mem hk
  obtain ⟨j, p, h1, h2, hF, hx⟩ := recs_mem hm
  rw [hx] at he
  subst he
  have hj : j < 16 := by omega
  have ha : at1 F (prOf j p).id = some p := by
    unfold at1 prOf
    rw [if_pos (by dsimp only; omega)]
    simpa using hF
  unfold place
  rw [ha]
  have e : ((prOf j p).id - 1).toNat = j := by simp only [prOf]; omega
  rw [e]
  simp only [Option.isSome_some, if_true]
  congr 1
  have hs := all_some hj hF
  rcases Nat.lt_trichotomy (lo F j).length k with h | h | h
  · have := hb _ h
    rw [hs, List.getD_eq_getElem?_getD, List.getElem?_append_right (Nat.le_refl _)] at this
    simp at this
  · exact h
  · have h3 : (allR F).getD k Pr.zero ∈ lo F j := by
      rw [hs, List.getD_eq_getElem?_getD, List.getElem?_append_left h, List.getElem?_eq_getElem h]
      exact List.getElem_mem h
    have := (lo_id h3).2
    rw [hx] at this
    simp only [prOf] at this
    omega
end Go.Proofs.Ythlhjaacjhlkhaa
