/- Who is late: the plain law. -/
import Derived.Test.YtnfmnocmglggdaaLtA
namespace Go.Proofs.Ytnfmnocmglggdaa
set_option maxHeartbeats 400000
set_option linter.unusedVariables false
set_option linter.unusedSimpArgs false
def pn (us : List Us) (i : Nat) : Nat := (us.getD i .zero).p.toNat
def cn (us : List Us) (i : Nat) : Nat := (us.getD i .zero).c.toNat
/-- When what began last at now, or ahead of it, is to be done. -/
def due (us : List Us) (now i : Nat) : Nat := (now / pn us i + 1) * pn us i
def relL (us : List Us) (now : Nat) (L : Nat → Nat) : Nat → Nat := fun i => if now % pn us i = 0 then cn us i else L i
def lateP (us : List Us) (now : Nat) (L : Nat → Nat) (i : Nat) : Bool := decide (now % pn us i = 0) && decide (0 < L i)
def lateK (us : List Us) (now : Nat) (L : Nat → Nat) (k : Nat) : Nat := ((List.range k).filter (lateP us now L)).length
def bst (us : List Us) (now : Nat) (L : Nat → Nat) : Nat → Option Nat
  | 0 => none
  | k + 1 => match bst us now L k with
    | none => if 0 < L k then some k else none
    | some b => if 0 < L k ∧ due us now k < due us now b then some k else some b
def cutL (o : Option Nat) (L : Nat → Nat) : Nat → Nat := match o with
  | none => L
  | some b => fun i => if i = b then L i - 1 else L i
structure St where
  L : Nat → Nat
  late : Nat
def round (us : List Us) (now : Nat) (s : St) : St := ⟨cutL (bst us now (relL us now s.L) us.length) (relL us now s.L), s.late + lateK us now s.L us.length⟩
def runL (us : List Us) : Nat → St
  | 0 => ⟨fun _ => 0, 0⟩
  | t + 1 => round us t (runL us t)
def lateF (us : List Us) (ticks : Nat) : Nat := (runL us (ticks + 1)).late
theorem lateK_succ (us : List Us) (now : Nat) (L : Nat → Nat) (k : Nat) : lateK us now L (k + 1) = lateK us now L k + if lateP us now L k = true then 1 else 0 := by
  unfold lateK
  rw [List.range_succ, List.filter_append, List.length_append]
  by_cases h : lateP us now L k = true <;> simp [h]
theorem lateK_le (us : List Us) (now : Nat) (L : Nat → Nat) (k : Nat) : lateK us now L k ≤ k := by
  unfold lateK
  have := List.length_filter_le (lateP us now L) (List.range k)
  simpa using this
theorem run_late (us : List Us) (t : Nat) : (runL us t).late ≤ t * us.length := by
  induction t with
  | zero => simp [runL]
  | succ t ih =>
    have := lateK_le us t (runL us t).L us.length
    simp only [runL, round]
    rw [Nat.add_mul]; omega
theorem cutL_le (o : Option Nat) (L : Nat → Nat) (i : Nat) : cutL o L i ≤ L i := by
  cases o with
  | none => exact Nat.le_refl _
  | some b =>
    show (if i = b then L i - 1 else L i) ≤ L i
    split <;> omega
theorem run_left {us : List Us} (h : chkU us = 0) (t : Nat) : ∀ i, i < us.length → (runL us t).L i ≤ 30 := by
  have hc : ∀ i, i < us.length → cn us i ≤ 30 := fun i hi => by
    obtain ⟨_, h2⟩ := chk_ok h
    have hm : us.getD i .zero ∈ us := by simp [List.getD, List.getElem?_eq_getElem hi]
    have := h2 _ hm
    unfold cn; omega
  induction t with
  | zero => intro i _; simp [runL]
  | succ t ih =>
    intro i hi
    have h1 : relL us t (runL us t).L i ≤ 30 := by
      unfold relL; split
      · exact hc i hi
      · exact ih i hi
    exact Nat.le_trans (cutL_le _ _ _) h1
/-- b is to be done first of those that have something left. -/
def Least (us : List Us) (now : Nat) (L : Nat → Nat) (k b : Nat) : Prop := b < k ∧ 0 < L b ∧ ∀ i, i < k → 0 < L i → due us now b < due us now i ∨ (due us now b = due us now i ∧ b ≤ i)
theorem bst_some (us : List Us) (now : Nat) (L : Nat → Nat) : ∀ k, (∀ b, bst us now L k = some b → Least us now L k b) ∧ (bst us now L k = none → ∀ i, i < k → L i = 0) := by
  intro k
  induction k with
  | zero => exact ⟨fun b h => (by cases h), fun _ i h => (by omega)⟩
  | succ k ih =>
    obtain ⟨h1, h2⟩ := ih
    unfold bst
    cases hb : bst us now L k with
    | none =>
      have h0 := h2 hb
      dsimp only
      by_cases hk : 0 < L k
      · rw [if_pos hk]
        refine ⟨fun b h => ?_, fun h => (by cases h)⟩
        injection h with h
        subst h
        refine ⟨by omega, hk, fun i hi hp => ?_⟩
        by_cases hik : i = k
        · subst hik; exact .inr ⟨rfl, Nat.le_refl _⟩
        · have := h0 i (by omega); omega
      · rw [if_neg hk]
        refine ⟨fun b h => (by cases h), fun _ i hi => ?_⟩
        by_cases hik : i = k
        · subst hik; omega
        · exact h0 i (by omega)
    | some b =>
      obtain ⟨a1, a2, a3⟩ := h1 b hb
      dsimp only
      by_cases hk : 0 < L k ∧ due us now k < due us now b
      · rw [if_pos hk]
        refine ⟨fun c h => ?_, fun h => (by cases h)⟩
        injection h with h
        subst h
        refine ⟨by omega, hk.1, fun i hi hp => ?_⟩
        by_cases hik : i = k
        · subst hik; exact .inr ⟨rfl, Nat.le_refl _⟩
        · rcases a3 i (by omega) hp with h3 | h3 <;> omega
      · rw [if_neg hk]
        refine ⟨fun c h => ?_, fun h => (by cases h)⟩
        injection h with h
        subst h
        refine ⟨by omega, a2, fun i hi hp => ?_⟩
        by_cases hik : i = k
        · subst hik
          have : ¬ due us now i < due us now b := fun h => hk ⟨hp, h⟩
          omega
        · exact a3 i (by omega) hp
theorem bst_is {us : List Us} {now : Nat} {L : Nat → Nat} {k b : Nat} (h : Least us now L k b) : bst us now L k = some b := by
  obtain ⟨h1, h2⟩ := bst_some us now L k
  cases hb : bst us now L k with
  | none => have := h2 hb b h.1; have := h.2.1; omega
  | some c =>
    obtain ⟨a1, a2, a3⟩ := h1 c hb
    obtain ⟨b1, b2, b3⟩ := h
    have x := a3 b b1 b2
    have y := b3 c a1 a2
    have : c = b := by omega
    rw [this]
theorem bst_none {us : List Us} {now : Nat} {L : Nat → Nat} {k : Nat} (h : ∀ i, i < k → L i = 0) : bst us now L k = none := by
  obtain ⟨h1, h2⟩ := bst_some us now L k
  cases hb : bst us now L k with
  | none => rfl
  | some c => obtain ⟨a1, a2, _⟩ := h1 c hb; have := h c a1; omega
/-- The jobs that the reference keeps: of each that has something left one. -/
structure Jbs (us : List Us) (L : Nat → Nat) (ids : List Nat) : Prop where
  nd : ids.Nodup
  lt : ∀ i ∈ ids, i < us.length
  all : ∀ i, i < us.length → 0 < L i → i ∈ ids
/-- When a job that is there at the beginning of now is to be done. -/
def dueB (us : List Us) (now i : Nat) : Nat := due us (now - 1) i
def goneP (us : List Us) (now : Nat) (L : Nat → Nat) (i : Nat) : Bool := decide (now < dueB us now i) && decide (0 < L i)
theorem period_pos {us : List Us} (h : chkU us = 0) {i : Nat} (hi : i < us.length) : 1 ≤ pn us i ∧ pn us i ≤ 30 ∧ 1 ≤ cn us i ∧ cn us i ≤ 30 := by
  obtain ⟨_, h2⟩ := chk_ok h
  have hm : us.getD i .zero ∈ us := by simp [List.getD, List.getElem?_eq_getElem hi]
  have := h2 _ hm
  unfold pn cn; omega
theorem dueB_eq {us : List Us} {now i : Nat} (h1 : 1 ≤ now) (hp : 1 ≤ pn us i) : (now % pn us i = 0 → dueB us now i = now) ∧ (now % pn us i ≠ 0 → dueB us now i = due us now i ∧ now < due us now i) := by
  unfold dueB due
  generalize pn us i = p at *
  have e1 := Nat.div_add_mod now p
  have e2 := Nat.mod_lt now (show 0 < p by omega)
  have e3 := Nat.div_add_mod (now - 1) p
  have e4 := Nat.mod_lt (now - 1) (show 0 < p by omega)
  constructor
  · intro h0
    obtain ⟨q, hq⟩ : ∃ q, now / p = q := ⟨_, rfl⟩
    rw [hq, h0] at e1
    have hq1 : 1 ≤ q := by
      rcases Nat.eq_zero_or_pos q with h | h
      · rw [h] at e1; simp at e1; omega
      · exact h
    have : (now - 1) / p = q - 1 := by
      apply Nat.div_eq_of_lt_le
      · rw [Nat.sub_mul, Nat.mul_comm q p]; omega
      · rw [show q - 1 + 1 = q by omega, Nat.mul_comm q p]; omega
    rw [this, show q - 1 + 1 = q by omega, Nat.mul_comm]
    omega
  · intro h0
    obtain ⟨q, hq⟩ : ∃ q, now / p = q := ⟨_, rfl⟩
    rw [hq] at e1
    have : (now - 1) / p = q := by
      apply Nat.div_eq_of_lt_le
      · rw [Nat.mul_comm q p]; omega
      · rw [Nat.add_mul, Nat.mul_comm q p]; omega
    rw [this, hq, Nat.add_mul, Nat.mul_comm q p]
    exact ⟨rfl, by omega⟩
theorem due_rel {us : List Us} {now i : Nat} (hp : 1 ≤ pn us i) (h : now % pn us i = 0) : due us now i = now + pn us i := by
  unfold due
  have e1 := Nat.div_add_mod now (pn us i)
  rw [Nat.add_mul, Nat.mul_comm (now / pn us i)]
  omega
/-- The late ones, as the reference counts them. -/
theorem late_count {us : List Us} {now : Nat} {L : Nat → Nat} {ids : List Nat} (hc : chkU us = 0) (h : Jbs us L ids) (h1 : 1 ≤ now) : (ids.filter (fun i => decide (dueB us now i = now) && decide (0 < L i))).length = lateK us now L us.length := by
  unfold lateK
  apply List.Perm.length_eq
  refine (List.perm_ext_iff_of_nodup (h.nd.filter _) (List.nodup_range.filter _)).2 (fun i => ?_)
  simp only [List.mem_filter, List.mem_range, lateP, Bool.and_eq_true, decide_eq_true_eq]
  constructor
  · rintro ⟨a, b, c⟩
    have hl := h.lt i a
    obtain ⟨_, e⟩ := dueB_eq h1 (period_pos hc hl).1
    refine ⟨hl, ?_, c⟩
    refine Classical.byContradiction fun hx => ?_
    have := e hx
    omega
  · rintro ⟨a, b, c⟩
    obtain ⟨e, _⟩ := dueB_eq h1 (period_pos hc a).1
    exact ⟨h.all i a c, e b, c⟩
/-- Who is there behind the releases. -/
def ids2 (us : List Us) (now : Nat) (L : Nat → Nat) (ids : List Nat) : List Nat := ids.filter (goneP us now L) ++ (List.range us.length).filter (fun i => decide (now % pn us i = 0))
theorem ids2_ok {us : List Us} {now : Nat} {L : Nat → Nat} {ids : List Nat} (hc : chkU us = 0) (h : Jbs us L ids) (h0 : now = 0 → ids = []) :
    (ids2 us now L ids).Nodup ∧ ∀ i, i ∈ ids2 us now L ids ↔ i < us.length ∧ 0 < relL us now L i := by
  have hk : ∀ i ∈ ids, 1 ≤ now := fun i hi => by
    rcases Nat.eq_zero_or_pos now with h | h
    · rw [h0 h] at hi; cases hi
    · exact h
  have hg : ∀ i ∈ ids, goneP us now L i = true ↔ now % pn us i ≠ 0 ∧ 0 < L i := fun i hi => by
    obtain ⟨e1, e2⟩ := dueB_eq (hk i hi) (period_pos hc (h.lt i hi)).1
    unfold goneP
    simp only [Bool.and_eq_true, decide_eq_true_eq]
    constructor
    · rintro ⟨a, b⟩
      refine ⟨fun hx => ?_, b⟩
      rw [e1 hx] at a; omega
    · rintro ⟨a, b⟩
      obtain ⟨c, d⟩ := e2 a
      exact ⟨by rw [c]; exact d, b⟩
  constructor
  · unfold ids2
    rw [List.nodup_append]
    refine ⟨h.nd.filter _, List.nodup_range.filter _, fun a ha b hb e => ?_⟩
    subst e
    have ha := List.mem_filter.1 ha
    have hb := List.mem_filter.1 hb
    have := (hg a ha.1).1 ha.2
    exact this.1 (by simpa using hb.2)
  · intro i
    unfold ids2
    rw [List.mem_append, List.mem_filter, List.mem_filter]
    simp only [List.mem_range, decide_eq_true_eq]
    unfold relL
    constructor
    · rintro (⟨a, b⟩ | ⟨a, b⟩)
      · have := (hg i a).1 b
        exact ⟨h.lt i a, by rw [if_neg this.1]; exact this.2⟩
      · exact ⟨a, by rw [if_pos b]; have := period_pos hc a; omega⟩
    · rintro ⟨a, b⟩
      by_cases hx : now % pn us i = 0
      · exact .inr ⟨a, hx⟩
      · rw [if_neg hx] at b
        have hi := h.all i a b
        exact .inl ⟨hi, (hg i hi).2 ⟨hx, b⟩⟩
/-- The job of one who is there. -/
def jobOf (us : List Us) (now : Nat) (L : Nat → Nat) (i : Nat) : Nat × Nat × Nat := (L i, due us now i, i)
theorem job_old {us : List Us} {now : Nat} {L : Nat → Nat} {i : Nat} (hc : chkU us = 0) (h1 : 1 ≤ now) (hi : i < us.length) (hg : goneP us now L i = true) : (L i, dueB us now i, i) = jobOf us now (relL us now L) i := by
  obtain ⟨e1, e2⟩ := dueB_eq h1 (period_pos hc hi).1
  unfold goneP at hg
  simp only [Bool.and_eq_true, decide_eq_true_eq] at hg
  have hx : now % pn us i ≠ 0 := fun hx => by have := e1 hx; omega
  unfold jobOf relL
  rw [if_neg hx, (e2 hx).1]
theorem job_new {us : List Us} {now : Nat} {L : Nat → Nat} {i : Nat} (hc : chkU us = 0) (hi : i < us.length) (hx : now % pn us i = 0) : (cn us i, now + pn us i, i) = jobOf us now (relL us now L) i := by
  unfold jobOf relL
  rw [if_pos hx, due_rel (period_pos hc hi).1 hx]
/-- Behind the sort: the first one is the one to be done first. -/
theorem next_jobs {us : List Us} {now : Nat} {L2 : Nat → Nat} {ids : List Nat} (hn : ids.Nodup) (hm : ∀ i, i ∈ ids ↔ i < us.length ∧ 0 < L2 i) {b : Nat} {rest : List Nat} (he : ids = b :: rest)
    (hs : ∀ i ∈ rest, ¬ (due us now i < due us now b ∨ due us now i = due us now b ∧ i < b)) : bst us now L2 us.length = some b ∧ Jbs us (cutL (some b) L2) ids := by
  have hb := (hm b).1 (by rw [he]; simp)
  constructor
  · refine bst_is ⟨hb.1, hb.2, fun i hi hp => ?_⟩
    have : i ∈ ids := (hm i).2 ⟨hi, hp⟩
    rw [he] at this
    rcases List.mem_cons.1 this with rfl | h
    · exact .inr ⟨rfl, Nat.le_refl _⟩
    · have := hs i h
      omega
  · refine ⟨hn, fun i hi => ((hm i).1 hi).1, fun i hi hp => (hm i).2 ⟨hi, ?_⟩⟩
    unfold cutL at hp
    dsimp only at hp
    split at hp
    · omega
    · exact hp
theorem next_none {us : List Us} {now : Nat} {L2 : Nat → Nat} {ids : List Nat} (hm : ∀ i, i ∈ ids ↔ i < us.length ∧ 0 < L2 i) (he : ids = []) : bst us now L2 us.length = none ∧ Jbs us (cutL none L2) ids := by
  subst he
  have h0 : ∀ i, i < us.length → L2 i = 0 := fun i hi => by
    rcases Nat.eq_zero_or_pos (L2 i) with h | h
    · exact h
    · have := (hm i).2 ⟨hi, h⟩; cases this
  refine ⟨bst_none h0, List.nodup_nil, fun i hi => (by cases hi), fun i hi hp => ?_⟩
  have := h0 i hi
  unfold cutL at hp; dsimp only at hp; omega
theorem late_two : lateF [⟨1, 1⟩, ⟨1, 2⟩] 4 = 2 := by decide
end Go.Proofs.Ytnfmnocmglggdaa
