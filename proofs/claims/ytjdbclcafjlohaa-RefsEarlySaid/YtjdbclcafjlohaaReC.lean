/- Who still reads since a thing was wished away: the plain law, record by record. -/
import Derived.Test.YtjdbclcafjlohaaReB
namespace Go.Proofs.Ytjdbclcafjlohaa
open Go.RowKit
set_option maxHeartbeats 400000
set_option linter.unusedVariables false
set_option linter.unusedSimpArgs false
/-- Task x has read all the time since o was last wished away. -/
def SetIs (rs : List Rc) (k : Nat) (o x : Int) : Prop := ∃ k', lastLater rs o k k' ∧ 1 ≤ x ∧ x ≤ 16 ∧ readsAll rs x k' k
theorem lastLater_other {rs : List Rc} {o : Int} {k k' : Nat} (h : ¬ isLater rs o k) : lastLater rs o (k + 1) k' ↔ lastLater rs o k k' := by
  constructor
  · rintro ⟨h1, h2, h3⟩
    have hne : k' ≠ k := fun e => h (e ▸ h2)
    exact ⟨by omega, h2, fun j h4 h5 => h3 j h4 (by omega)⟩
  · rintro ⟨h1, h2, h3⟩
    refine ⟨by omega, h2, fun j h4 h5 => ?_⟩
    rcases Nat.lt_or_ge j k with h6 | h6
    · exact h3 j h4 h6
    · obtain rfl : j = k := by omega
      exact h
theorem lastLater_new {rs : List Rc} {o : Int} {k k' : Nat} (h : isLater rs o k) : lastLater rs o (k + 1) k' ↔ k' = k := by
  constructor
  · intro h1
    exact h1.unique ⟨Nat.lt_succ_self _, h, fun j h2 h3 => by omega⟩
  · rintro rfl
    exact ⟨Nat.lt_succ_self _, h, fun j h2 h3 => by omega⟩
theorem dp_same {rs : List Rc} {k : Nat} (hk : k < rs.length) {x : Int} (h : (rs.getD k .zero).t ≠ x ∨ ((rs.getD k .zero).k ≠ 3 ∧ (rs.getD k .zero).k ≠ 4)) : dp (rs.take (k + 1)) x = dp (rs.take k) x := by
  rw [dp_take rs k hk]
  unfold dp1
  rcases h with h | ⟨h1, h2⟩
  · rw [if_neg h]
  · by_cases ht : (rs.getD k .zero).t = x
    · rw [if_pos ht, if_neg h1, if_neg h2]
    · rw [if_neg ht]
theorem dp_pos {rs : List Rc} {k : Nat} (hk : k < rs.length) {x : Int} (h : (rs.getD k .zero).t ≠ x ∨ (rs.getD k .zero).k ≠ 4) (hp : 0 < dp (rs.take k) x) : 0 < dp (rs.take (k + 1)) x := by
  rw [dp_take rs k hk]
  unfold dp1
  rcases h with h | h
  · rw [if_neg h]; exact hp
  · (repeat' split) <;> omega
theorem reads_pos {rs : List Rc} {o x : Int} {k k' : Nat} (hk : k ≤ rs.length) (hl : lastLater rs o k k') (hr : readsAll rs x k' k) : 0 < dp (rs.take k) x := by
  have h1 := hl.1
  by_cases h2 : k = k' + 1
  · subst h2
    rw [dp_same (by omega) (.inr ⟨by rw [hl.2.1.1]; omega, by rw [hl.2.1.1]; omega⟩)]
    exact hr.1
  · have := hr.2 (k - 1) (by omega) (by omega)
    rwa [show k - 1 + 1 = k by omega] at this
theorem SetIs.step {rs : List Rc} {o x : Int} {k : Nat} (hk : k < rs.length) (h : ¬ isLater rs o k) : SetIs rs (k + 1) o x ↔ SetIs rs k o x ∧ 0 < dp (rs.take (k + 1)) x := by
  constructor
  · rintro ⟨k', h1, h2, h3, h4⟩
    rw [lastLater_other h] at h1
    rw [readsAll_snoc h1.1] at h4
    exact ⟨⟨k', h1, h2, h3, h4.1⟩, h4.2⟩
  · rintro ⟨⟨k', h1, h2, h3, h4⟩, h5⟩
    exact ⟨k', (lastLater_other h).2 h1, h2, h3, (readsAll_snoc h1.1).2 ⟨h4, h5⟩⟩
/-- A record that is no Leave of x, and wishes not o away, leaves it as it is. -/
theorem SetIs.keep {rs : List Rc} {o x : Int} {k : Nat} (hk : k < rs.length) (h : ¬ isLater rs o k) (hx : (rs.getD k .zero).t ≠ x ∨ (rs.getD k .zero).k ≠ 4) : SetIs rs (k + 1) o x ↔ SetIs rs k o x := by
  rw [SetIs.step hk h]
  refine ⟨fun h => h.1, fun h => ⟨h, ?_⟩⟩
  obtain ⟨k', h1, h2, h3, h4⟩ := h
  exact dp_pos hk hx (reads_pos (Nat.le_of_lt hk) h1 h4)
/-- A Leave behind which its task still reads. -/
theorem SetIs.still {rs : List Rc} {o x : Int} {k : Nat} (hk : k < rs.length) (h : ¬ isLater rs o k) (hx : 0 < dp (rs.take (k + 1)) x) : SetIs rs (k + 1) o x ↔ SetIs rs k o x := by
  rw [SetIs.step hk h]
  exact ⟨fun h => h.1, fun h => ⟨h, hx⟩⟩
/-- A Leave behind which its task reads no more. -/
theorem SetIs.out {rs : List Rc} {o x : Int} {k : Nat} (hk : k < rs.length) (h : ¬ isLater rs o k) (hx : ¬ 0 < dp (rs.take (k + 1)) x) : ¬ SetIs rs (k + 1) o x := by
  rw [SetIs.step hk h]
  exact fun h => hx h.2
theorem SetIs.new {rs : List Rc} {o x : Int} {k : Nat} (h : isLater rs o k) : SetIs rs (k + 1) o x ↔ 1 ≤ x ∧ x ≤ 16 ∧ 0 < dp (rs.take k) x := by
  constructor
  · rintro ⟨k', h1, h2, h3, h4⟩
    obtain rfl := (lastLater_new h).1 h1
    exact ⟨h2, h3, h4.1⟩
  · rintro ⟨h1, h2, h3⟩
    exact ⟨k, (lastLater_new h).2 rfl, h1, h2, readsAll_first.2 h3⟩
theorem SetIs.first {rs : List Rc} {o x : Int} : ¬ SetIs rs 0 o x := fun ⟨k', h, _⟩ => by have := h.1; omega
theorem badE_iff {rs : List Rc} {i : Nat} : badE rs i ↔ (rs.getD i .zero).k = 9 ∧ ∃ x, SetIs rs i (rs.getD i .zero).o x := by
  constructor
  · rintro ⟨h9, k, hk, t, h1, h2, h3⟩
    exact ⟨h9, t, k, hk, by omega, by omega, h3⟩
  · rintro ⟨h9, x, k, hk, h1, h2, h3⟩
    refine ⟨h9, k, hk, x.toNat, by omega, by omega, ?_⟩
    rw [show ((x.toNat : Nat) : Int) = x by omega]
    exact h3
/-- Ahead of the first record nobody reads; a task outside 1..16 never does. -/
theorem dp_out {rs : List Rc} (hg : ∀ k, k < rs.length → (rs.getD k .zero).err = 0) {x : Int} (hx : x < 1 ∨ 16 < x) (k : Nat) (h : k ≤ rs.length) : dp (rs.take k) x = 0 := by
  induction k with
  | zero => rfl
  | succ k ih =>
    have h1 := Rc.good (hg k (by omega))
    rw [dp_same (by omega) (.inl (by omega))]
    exact ih (by omega)
end Go.Proofs.Ytjdbclcafjlohaa
