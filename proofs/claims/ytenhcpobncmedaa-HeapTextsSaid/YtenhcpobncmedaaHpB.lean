/- A heap of pairs (number, key), with the places of the numbers: the plain law (no program). -/
import Derived.Test.YtenhcpobncmedaaHpA
namespace Go.Proofs.Ytenhcpobncmedaa
set_option linter.unusedVariables false
set_option linter.unusedSimpArgs false
variable {κ : Type}
/-- By key, then by number. -/
def bef (klt : κ → κ → Bool) (p q : Int × κ) : Bool := klt p.2 q.2 || (!(klt q.2 p.2) && decide (p.1 < q.1))
theorem bef_ord {klt : κ → κ → Bool} (h : SOrd klt) : SOrd (bef klt) := by
  refine ⟨fun x => by simp [bef, h.irr], fun x y z h1 h2 => ?_, fun x y h1 h2 => ?_⟩
  · simp only [bef, Bool.or_eq_true, Bool.and_eq_true, Bool.not_eq_true', decide_eq_true_eq] at h1 h2 ⊢
    rcases h1 with h1 | ⟨h1, h1'⟩
    · rcases h2 with h2 | ⟨h2, h2'⟩
      · exact .inl (h.tr _ _ _ h1 h2)
      · left
        cases hc : klt x.2 z.2 with
        | true => rfl
        | false =>
          have := h.le_tr h2 hc
          rw [h1] at this; cases this
    · rcases h2 with h2 | ⟨h2, h2'⟩
      · left
        cases hc : klt x.2 z.2 with
        | true => rfl
        | false =>
          have := h.le_tr hc h1
          rw [h2] at this; cases this
      · exact .inr ⟨h.le_tr h1 h2, by omega⟩
  · simp only [bef, Bool.or_eq_false_iff, Bool.and_eq_false_iff, Bool.not_eq_false', decide_eq_false_iff_not] at h1 h2
    have e : x.2 = y.2 := h.tot _ _ h1.1 h2.1
    have h3 : x.1 = y.1 := by
      rcases h1.2 with h4 | h4
      · rw [h2.1] at h4; cases h4
      · rcases h2.2 with h5 | h5
        · rw [h1.1] at h5; cases h5
        · omega
    exact Prod.ext h3 e
theorem int_ord : SOrd (fun a b : Int => decide (a < b)) :=
  ⟨fun x => by simp, fun x y z h1 h2 => by simp at h1 h2 ⊢; omega, fun x y h1 h2 => by simp at h1 h2; omega⟩
/-- Two places exchanged. -/
def swl {α : Type} (z : α) (l : List α) (i j : Nat) : List α := (l.set i (l.getD j z)).set j (l.getD i z)
section
variable {α : Type} {z : α} {l : List α} {i j : Nat}
theorem swl_len : (swl z l i j).length = l.length := by simp [swl]
theorem getD_of (h : i < l.length) : l.getD i z = l[i] := by simp [List.getD, List.getElem?_eq_getElem h]
theorem swl_get (hi : i < l.length) (hj : j < l.length) (k : Nat) : (swl z l i j).getD k z = swp (fun k => l.getD k z) i j k := by
  unfold swl swp
  simp only [List.getD_eq_getElem?_getD, List.getElem?_set, List.length_set]
  by_cases h1 : k = i
  · by_cases h2 : k = j
    · subst h1; subst h2; simp [hi]
    · subst h1
      simp [hi, Ne.symm h2]
  · by_cases h2 : k = j
    · subst h2; simp [hj, h1]
    · simp [h1, h2, Ne.symm h1, Ne.symm h2]
theorem swl_perm (hi : i < l.length) (hj : j < l.length) : (swl z l i j).Perm l := by
  unfold swl
  rw [getD_of hi, getD_of hj]
  exact List.set_set_perm hi hj
theorem swl_map {β : Type} (g : α → β) : (swl z l i j).map g = ((l.map g).set i (g (l.getD j z))).set j (g (l.getD i z)) := by
  unfold swl; rw [List.map_set, List.map_set]
end
def upd1 (f : Int → Option Int) (x y : Int) : Int → Option Int := fun z => if z = x then some y else f z
/-- f tells where each number stands. -/
structure Pos (z : Int × κ) (ps : List (Int × κ)) (f : Int → Option Int) : Prop where
  at_ : ∀ i, i < ps.length → f (ps.getD i z).1 = some (i : Int)
  only : ∀ id v, f id = some v → ∃ i : Nat, i < ps.length ∧ v = i ∧ (ps.getD i z).1 = id
namespace Pos
variable {z : Int × κ} {ps : List (Int × κ)} {f : Int → Option Int}
theorem inj (h : Pos z ps f) {i j : Nat} (hi : i < ps.length) (hj : j < ps.length) (e : (ps.getD i z).1 = (ps.getD j z).1) : i = j := by
  have h1 := h.at_ i hi
  rw [e, h.at_ j hj] at h1
  injection h1 with h1; omega
theorem new : Pos z [] (fun _ => none) := ⟨fun i hi => by simp at hi, fun id v h => by simp at h⟩
theorem none_iff (h : Pos z ps f) (id : Int) : f id = none ↔ ∀ p ∈ ps, p.1 ≠ id := by
  constructor
  · intro h0 p hp e
    obtain ⟨i, hi, rfl⟩ := List.mem_iff_getElem.1 hp
    have := h.at_ i hi
    rw [getD_of hi, e, h0] at this; cases this
  · intro h0
    cases hf : f id with
    | none => rfl
    | some v =>
      obtain ⟨i, hi, _, e⟩ := h.only id v hf
      rw [getD_of hi] at e
      exact absurd e (h0 _ (List.getElem_mem hi))
theorem swap (h : Pos z ps f) {i j : Nat} (hi : i < ps.length) (hj : j < ps.length) : Pos z (swl z ps i j) (upd1 (upd1 f (ps.getD j z).1 i) (ps.getD i z).1 j) := by
  refine ⟨fun k hk => ?_, fun id v hv => ?_⟩
  · rw [swl_len] at hk
    rw [swl_get hi hj]
    unfold upd1 swp
    by_cases h1 : k = i
    · subst h1
      simp only [if_true]
      split
      · next e => rw [h.inj hj hi e]
      · rfl
    · by_cases h2 : k = j
      · subst h2; simp [h1]
      · simp only [h1, h2, if_false]
        rw [if_neg (fun e => h1 (h.inj hk hi e)), if_neg (fun e => h2 (h.inj hk hj e)), h.at_ k hk]
  · unfold upd1 at hv
    rw [swl_len]
    split at hv
    · next e =>
      injection hv with hv
      exact ⟨j, hj, hv.symm, by rw [swl_get hi hj, swp_r, e]⟩
    · split at hv
      · next e0 e =>
        injection hv with hv
        exact ⟨i, hi, hv.symm, by rw [swl_get hi hj, swp_l, e]⟩
      · next e0 e1 =>
        obtain ⟨k, hk, rfl, e⟩ := h.only id v hv
        refine ⟨k, hk, rfl, ?_⟩
        rw [swl_get hi hj, swp_o]
        · exact e
        · rintro rfl; exact e0 e.symm
        · rintro rfl; exact e1 e.symm
/-- One more at the end. -/
theorem push (h : Pos z ps f) {id : Int} {k : κ} (hn : f id = none) : Pos z (ps ++ [(id, k)]) (upd1 f id ps.length) := by
  refine ⟨fun i hi => ?_, fun id' v hv => ?_⟩
  · rw [List.length_append, List.length_singleton] at hi
    by_cases h1 : i = ps.length
    · subst h1
      simp [List.getD_eq_getElem?_getD, upd1]
    · have hi' : i < ps.length := by omega
      have e : (ps ++ [(id, k)]).getD i z = ps.getD i z := by simp [List.getD_eq_getElem?_getD, List.getElem?_append_left hi']
      rw [e]
      unfold upd1
      rw [if_neg, h.at_ i hi']
      intro e2
      have := h.at_ i hi'
      rw [e2, hn] at this; cases this
  · unfold upd1 at hv
    rw [List.length_append, List.length_singleton]
    split at hv
    · next e => injection hv with hv; exact ⟨ps.length, by omega, hv.symm, by simp [List.getD_eq_getElem?_getD, e]⟩
    · obtain ⟨i, hi, rfl, e⟩ := h.only id' v hv
      exact ⟨i, by omega, rfl, by simp only [List.getD_eq_getElem?_getD, List.getElem?_append_left hi]; simpa [List.getD_eq_getElem?_getD] using e⟩
/-- Another key. -/
theorem key (h : Pos z ps f) {i : Nat} (hi : i < ps.length) (k : κ) : Pos z (ps.set i ((ps.getD i z).1, k)) f := by
  have e : ∀ j, ((ps.set i ((ps.getD i z).1, k)).getD j z).1 = (ps.getD j z).1 := fun j => by
    simp only [List.getD_eq_getElem?_getD, List.getElem?_set]
    by_cases h1 : i = j
    · subst h1; simp [hi]
    · simp [h1]
  refine ⟨fun j hj => ?_, fun id v hv => ?_⟩
  · rw [e]; exact h.at_ j (by simpa using hj)
  · obtain ⟨j, hj, h1, h2⟩ := h.only id v hv
    exact ⟨j, by simpa using hj, h1, by rw [e]; exact h2⟩
/-- The last one goes. -/
theorem pop (h : Pos z ps f) (hn : 0 < ps.length) : Pos z (ps.take (ps.length - 1)) (fun x => if x = (ps.getD (ps.length - 1) z).1 then none else f x) := by
  have e : ∀ j, j < ps.length - 1 → (ps.take (ps.length - 1)).getD j z = ps.getD j z := fun j hj => by
    simp only [List.getD_eq_getElem?_getD]
    rw [List.getElem?_take_of_lt hj]
  have hl : (ps.take (ps.length - 1)).length = ps.length - 1 := by simp
  refine ⟨fun j hj => ?_, fun id v hv => ?_⟩
  · rw [hl] at hj
    rw [e j hj]
    rw [if_neg, h.at_ j (by omega)]
    intro e1
    have := h.inj (by omega) (by omega) e1
    omega
  · split at hv
    · cases hv
    · next hne =>
      obtain ⟨j, hj, h1, h2⟩ := h.only id v hv
      have hj' : j < ps.length - 1 := by
        rcases Nat.lt_or_ge j (ps.length - 1) with h3 | h3
        · exact h3
        · have : j = ps.length - 1 := by omega
          subst this
          exact absurd h2.symm hne
      exact ⟨j, by rw [hl]; exact hj', h1, by rw [e j hj']; exact h2⟩
end Pos
end Go.Proofs.Ytenhcpobncmedaa
