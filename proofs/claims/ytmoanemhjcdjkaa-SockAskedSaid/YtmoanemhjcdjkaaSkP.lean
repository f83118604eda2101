/- Plain law of sockets that go: one is cut off, all who wait are cut off. -/
import Derived.Test.YtmoanemhjcdjkaaSkA
namespace Go.Proofs.Ytmoanemhjcdjkaa
open Go.RowKit
set_option linter.unusedVariables false
set_option linter.unusedSimpArgs false
/-- Who is joined is joined both ways. -/
structure PInv (F : Fs) : Prop where
  out : ∀ i, 16 ≤ i → F i = none
  peer : ∀ i x, i < 16 → F i = some x → x.peer ≠ 0 → ∃ (j : Nat) (y : Sk), j < 16 ∧ j ≠ i ∧ x.peer = (j : Int) + 1 ∧ F j = some y ∧ y.peer = (i : Int) + 1
theorem Inv.p {F : Fs} (h : Inv F) : PInv F := ⟨h.out, fun i x hi hp h0 => by
  obtain ⟨_, j, y, h1, h2, h3, h4, _, h5⟩ := h.peer i x hi hp h0
  exact ⟨j, y, h1, h2, h3, h4, h5⟩⟩
theorem PInv.flt {F : Fs} (h : PInv F) (L : List Int) : PInv (flt F L) := ⟨fun i hi => by unfold Ytmoanemhjcdjkaa.flt; rw [h.out i hi]; rfl, fun i x hi hp h0 => by
  unfold Ytmoanemhjcdjkaa.flt at hp
  cases hF : F i with
  | none => rw [hF] at hp; cases hp
  | some z =>
    rw [hF] at hp
    injection hp with hp
    subst hp
    obtain ⟨j, y, h1, h2, h3, h4, h5⟩ := h.peer i z hi hF h0
    exact ⟨j, { y with q := y.q.filter (fun k => decide (k ∉ L)) }, h1, h2, h3, by unfold Ytmoanemhjcdjkaa.flt; rw [h4]; rfl, h5⟩⟩
theorem cutL_some {F : Fs} {L : List Int} {i : Nat} {x : Sk} (h : cutL F L i = some x) : ((i : Int) + 1) ∉ L ∧ ∃ z, F i = some z ∧ x = { z with peer := if z.peer ∈ L then 0 else z.peer } := by
  unfold cutL at h
  by_cases e : ((i : Int) + 1) ∈ L
  · rw [if_pos e] at h; cases h
  · rw [if_neg e] at h
    cases hF : F i with
    | none => rw [hF] at h; cases h
    | some z =>
      rw [hF] at h
      injection h with h
      exact ⟨e, z, rfl, h.symm⟩
theorem cutL_live {F : Fs} {L : List Int} {i : Nat} {z : Sk} (h : F i = some z) (e : ((i : Int) + 1) ∉ L) : cutL F L i = some { z with peer := if z.peer ∈ L then 0 else z.peer } := by
  unfold cutL
  rw [if_neg e, h]; rfl
theorem PInv.cut {F : Fs} (h : PInv F) (L : List Int) : PInv (cutL F L) := ⟨fun i hi => by
    unfold cutL
    rw [h.out i hi]
    split <;> rfl, fun i x hi hp h0 => by
  obtain ⟨e, z, hz, rfl⟩ := cutL_some hp
  dsimp only at h0 ⊢
  by_cases e2 : z.peer ∈ L
  · rw [if_pos e2] at h0; exact absurd rfl h0
  · rw [if_neg e2] at h0 ⊢
    obtain ⟨j, y, h1, h2, h3, h4, h5⟩ := h.peer i z hi hz h0
    refine ⟨j, _, h1, h2, h3, cutL_live h4 (by rw [← h3]; exact e2), ?_⟩
    dsimp only
    rw [h5, if_neg e]⟩
/-- One is cut off: it had no other end. -/
theorem cut_alone {F : Fs} (h : PInv F) {j : Nat} {x : Sk} (hj : j < 16) (hx : F j = some x) (h0 : x.peer = 0) : cutL F [(j : Int) + 1] = put F j none := by
  funext i
  by_cases e : i = j
  · subst e
    rw [put_same]
    unfold cutL
    rw [if_pos (by simp)]
  · rw [put_other F e]
    have e1 : ((i : Int) + 1) ∉ [(j : Int) + 1] := by simp; omega
    cases hF : F i with
    | none => unfold cutL; rw [if_neg e1, hF]; rfl
    | some z =>
      rw [cutL_live hF e1]
      have e2 : z.peer ∉ [(j : Int) + 1] := by
        intro hm
        have hm : z.peer = (j : Int) + 1 := by simpa using hm
        have hi : i < 16 := by
          by_cases hi : i < 16
          · exact hi
          · rw [h.out i (by omega)] at hF; cases hF
        obtain ⟨j', y, h1, h2, h3, h4, h5⟩ := h.peer i z hi hF (by omega)
        have : j' = j := by omega
        subst this
        rw [hx] at h4
        injection h4 with h4
        subst h4
        omega
      rw [if_neg e2]
/-- One is cut off: its other end is alone now. -/
theorem cut_both {F : Fs} (h : PInv F) {j k : Nat} {x y : Sk} (hj : j < 16) (hx : F j = some x) (hk : k < 16) (h0 : x.peer = (k : Int) + 1) (hy : F k = some y) : cutL F [(j : Int) + 1] = put (put F k (some { y with peer := 0 })) j none := by
  obtain ⟨k', y', h1, h2, h3, h4, h5⟩ := h.peer j x hj hx (by omega)
  have : k' = k := by omega
  subst this
  rw [hy] at h4
  injection h4 with h4
  subst h4
  funext i
  by_cases e : i = j
  · subst e
    rw [put_same]
    unfold cutL
    rw [if_pos (by simp)]
  · rw [put_other _ e]
    have e1 : ((i : Int) + 1) ∉ [(j : Int) + 1] := by simp; omega
    by_cases ek : i = k'
    · subst ek
      rw [put_same, cutL_live hy e1, if_pos (by rw [h5]; simp)]
    · rw [put_other _ ek]
      cases hF : F i with
      | none => unfold cutL; rw [if_neg e1, hF]; rfl
      | some z =>
        rw [cutL_live hF e1]
        have e2 : z.peer ∉ [(j : Int) + 1] := by
          intro hm
          have hm : z.peer = (j : Int) + 1 := by simpa using hm
          have hi : i < 16 := by
            by_cases hi : i < 16
            · exact hi
            · rw [h.out i (by omega)] at hF; cases hF
          obtain ⟨j', y', h1, h2, h3', h4, h5'⟩ := h.peer i z hi hF (by omega)
          have : j' = j := by omega
          subst this
          rw [hx] at h4
          injection h4 with h4
          subst h4
          omega
        rw [if_neg e2]
/-- Who waits at a socket waits nowhere else; a socket that is waited at waits nowhere. -/
theorem drop_flt {F : Fs} (h : Inv F) {j : Nat} {x : Sk} (hj : j < 16) (hx : F j = some x) : cutL (flt F [(j : Int) + 1]) (x.q ++ [(j : Int) + 1]) = dropF F (((j : Int) + 1) :: x.q) := by
  unfold dropF
  rw [cutL_mem (L := x.q ++ [(j : Int) + 1]) (M := ((j : Int) + 1) :: x.q) (fun k => by simp [or_comm])]
  funext i
  unfold cutL
  by_cases e : ((i : Int) + 1) ∈ ((j : Int) + 1) :: x.q
  · rw [if_pos e, if_pos e]
  · rw [if_neg e, if_neg e]
    congr 1
    unfold flt
    cases hF : F i with
    | none => rfl
    | some z =>
      simp only [Option.map_some, Option.some.injEq]
      have : z.q.filter (fun k => decide (k ∉ [(j : Int) + 1])) = z.q.filter (fun k => decide (k ∉ ((j : Int) + 1) :: x.q)) := by
        apply List.filter_congr
        intro k hk
        have hi : i < 16 := by
          by_cases hi : i < 16
          · exact hi
          · rw [h.out i (by omega)] at hF; cases hF
        have hij : i ≠ j := by
          rintro rfl
          exact e (List.mem_cons_self ..)
        have hnot : k ∉ x.q := h.apart i j z x k hi hj hF hx hij hk
        simp [hnot]
      rw [this]
/-- A socket does not wait at itself. -/
theorem flt_self {F : Fs} (h : Inv F) {j : Nat} {x : Sk} (hj : j < 16) (hx : F j = some x) : x.q.filter (fun k => decide (k ∉ [(j : Int) + 1])) = x.q := by
  apply List.filter_eq_self.2
  intro k hk
  obtain ⟨h1, j', y, h2, h3, h4, h5⟩ := h.queue j x k hj hx hk
  have : k ≠ (j : Int) + 1 := by
    intro e
    have : j' = j := by omega
    subst this
    rw [hx] at h4
    injection h4 with h4
    subst h4
    omega
  simp [this]
end Go.Proofs.Ytmoanemhjcdjkaa
