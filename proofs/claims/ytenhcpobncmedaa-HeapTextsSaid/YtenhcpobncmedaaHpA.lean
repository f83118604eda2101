/- A binary heap over a strict total order: the plain law (no program). -/
import Init
namespace Go.Proofs.Ytenhcpobncmedaa
set_option linter.unusedVariables false
set_option linter.unusedSimpArgs false
/-- A strict total order, as a test. -/
structure SOrd {α : Type} (b : α → α → Bool) : Prop where
  irr : ∀ x, b x x = false
  tr : ∀ x y z, b x y = true → b y z = true → b x z = true
  tot : ∀ x y, b x y = false → b y x = false → x = y
namespace SOrd
variable {α : Type} {b : α → α → Bool}
theorem asym (h : SOrd b) {x y : α} (hb : b x y = true) : b y x = false := by
  cases hc : b y x with
  | false => rfl
  | true => have := h.tr _ _ _ hb hc; rw [h.irr] at this; cases this
/-- 'not later' passes on. -/
theorem le_tr (h : SOrd b) {x y z : α} (h1 : b y x = false) (h2 : b z y = false) : b z x = false := by
  cases hc : b z x with
  | false => rfl
  | true =>
    cases hd : b x y with
    | true => have := h.tr _ _ _ hc hd; rw [h2] at this; cases this
    | false => have := h.tot _ _ hd h1; subst this; rw [h2] at hc; cases hc
end SOrd
variable {α : Type}
def hpar (j : Nat) : Nat := (j - 1) / 2
/-- Nobody comes ahead of who stands above. -/
def Heap (b : α → α → Bool) (n : Nat) (p : Nat → α) : Prop := ∀ j, 0 < j → j < n → b (p j) (p (hpar j)) = false
/-- The same but at place i, which is any. -/
structure Hole (b : α → α → Bool) (n : Nat) (p : Nat → α) (i : Nat) : Prop where
  off : ∀ j, 0 < j → j < n → j ≠ i → hpar j ≠ i → b (p j) (p (hpar j)) = false
  over : ∀ c, 0 < c → c < n → hpar c = i → 0 < i → b (p c) (p (hpar i)) = false
/-- The same, and place i is not ahead of who stands above it. -/
structure Down (b : α → α → Bool) (n : Nat) (p : Nat → α) (i : Nat) : Prop where
  off : ∀ j, 0 < j → j < n → hpar j ≠ i → b (p j) (p (hpar j)) = false
  over : ∀ c, 0 < c → c < n → hpar c = i → 0 < i → b (p c) (p (hpar i)) = false
def swp (p : Nat → α) (i j : Nat) : Nat → α := fun k => if k = i then p j else if k = j then p i else p k
theorem swp_l (p : Nat → α) (i j : Nat) : swp p i j i = p j := by simp [swp]
theorem swp_r (p : Nat → α) (i j : Nat) : swp p i j j = p i := by simp [swp]; intro h; rw [h]
theorem swp_o (p : Nat → α) {i j k : Nat} (h1 : k ≠ i) (h2 : k ≠ j) : swp p i j k = p k := by simp [swp, h1, h2]
variable {b : α → α → Bool} {n : Nat} {p : Nat → α}
theorem Hole.of_heap (ho : SOrd b) (h : Heap b n p) {q : Nat → α} {m i : Nat} (hm : ∀ k, k < m → k ≠ i → k < n) (hq : ∀ k, k < m → k ≠ i → q k = p k) (hi : ∀ c, 0 < c → c < m → hpar c = i → i < n) : Hole b m q i := by
  refine ⟨fun j h0 hj h1 h2 => ?_, fun c h0 hc h1 h2 => ?_⟩
  · rw [hq j hj h1, hq (hpar j) (by unfold hpar; omega) h2]
    exact h j h0 (hm j hj h1)
  · have hci : c ≠ i := by unfold hpar at h1; omega
    rw [hq c hc hci, hq (hpar i) (by unfold hpar at h1 ⊢; omega) (by unfold hpar; omega)]
    have e1 := h c h0 (hm c hc hci)
    rw [h1] at e1
    exact ho.le_tr (h i h2 (hi c h0 hc h1)) e1
theorem Hole.up (ho : SOrd b) {i : Nat} (h : Hole b n p i) (hi : i < n) (h0 : 0 < i) (hb : b (p i) (p (hpar i)) = true) : Hole b n (swp p i (hpar i)) (hpar i) := by
  have hpi : hpar i < i := by unfold hpar; omega
  refine ⟨fun j h1 hj h2 h3 => ?_, fun c h1 hc h2 h3 => ?_⟩
  · have hji : j ≠ i := fun e => h3 (by rw [e])
    rw [swp_o p hji h2]
    by_cases hq : hpar j = i
    · rw [hq, swp_l]; exact h.over j h1 hj hq h0
    · rw [swp_o p hq h3]; exact h.off j h1 hj hji hq
  · have hg : hpar (hpar i) < hpar i := by unfold hpar at h3 ⊢; omega
    have e0 := h.off (hpar i) h3 (by omega) (by omega) (by omega)
    rw [swp_o p (k := hpar (hpar i)) (by omega) (by omega)]
    by_cases hci : c = i
    · subst hci; rw [swp_l]; exact e0
    · have hcp : c ≠ hpar i := by unfold hpar at h2 ⊢; omega
      rw [swp_o p hci hcp]
      have e1 := h.off c h1 hc hci (by omega)
      rw [h2] at e1
      exact ho.le_tr e0 e1
theorem Hole.down {i : Nat} (h : Hole b n p i) (hi : 0 < i → b (p i) (p (hpar i)) = false) : Down b n p i :=
  ⟨fun j h0 hj h1 => by by_cases e : j = i
                        · subst e; exact hi h0
                        · exact h.off j h0 hj e h1, h.over⟩
theorem Down.heap {i : Nat} (h : Down b n p i) (hi : ∀ c, 0 < c → c < n → hpar c = i → b (p c) (p i) = false) : Heap b n p := fun j h0 hj => by
  by_cases e : hpar j = i
  · have := hi j h0 hj e; rw [e]; exact this
  · exact h.off j h0 hj e
/-- One step down: m is a child of i, ahead of it and of no child later. -/
theorem Down.step (ho : SOrd b) {i m : Nat} (h : Down b n p i) (hm : m < n) (h0 : 0 < m) (hpm : hpar m = i) (hb : b (p m) (p i) = true) (hmin : ∀ c, 0 < c → c < n → hpar c = i → b (p c) (p m) = false) : Down b n (swp p i m) m := by
  have him : i < m := by unfold hpar at hpm; omega
  refine ⟨fun j h1 hj h2 => ?_, fun c h1 hc h2 h3 => ?_⟩
  · by_cases e : hpar j = i
    · rw [e, swp_l]
      by_cases ejm : j = m
      · subst ejm; rw [swp_r]; exact ho.asym hb
      · rw [swp_o p (k := j) (by unfold hpar at e; omega) ejm]; exact hmin j h1 hj e
    · rw [swp_o p (k := hpar j) e h2]
      by_cases eji : j = i
      · subst eji; rw [swp_l]; exact h.over m h0 hm hpm h1
      · rw [swp_o p (k := j) eji (fun ej => e (by rw [ej, hpm]))]; exact h.off j h1 hj e
  · have hmc : m < c := by unfold hpar at h2; omega
    rw [hpm, swp_l, swp_o p (k := c) (by omega) (by omega)]
    have := h.off c h1 hc (by omega)
    rw [h2] at this; exact this
/-- Who stands at the top comes first. -/
theorem Heap.top (ho : SOrd b) (h : Heap b n p) : ∀ j, j < n → b (p j) (p 0) = false := by
  intro j
  induction j using Nat.strongRecOn with
  | ind j ih =>
    intro hj
    by_cases h0 : j = 0
    · subst h0; exact ho.irr _
    · have h1 := ih (hpar j) (by unfold hpar; omega) (by unfold hpar; omega)
      exact ho.le_tr h1 (h j (by omega) hj)
/-- The better of two places. -/
def better (b : α → α → Bool) (p : Nat → α) (c m : Nat) : Nat := if b (p c) (p m) = true then c else m
/-- The best of i and its children that are there: as the loop finds it. -/
def bestOf (b : α → α → Bool) (p : Nat → α) (n i : Nat) : Nat :=
  if 2 * i + 2 < n then better b p (2 * i + 2) (better b p (2 * i + 1) i) else if 2 * i + 1 < n then better b p (2 * i + 1) i else i
theorem better_t {c m : Nat} (h : b (p c) (p m) = true) : better b p c m = c := by simp [better, h]
theorem better_f {c m : Nat} (h : b (p c) (p m) = false) : better b p c m = m := by simp [better, h]
theorem bestOf_cases (ho : SOrd b) (p : Nat → α) (n i : Nat) (hi : i < n) : bestOf b p n i < n ∧ (bestOf b p n i = i ∧ (∀ c, 0 < c → c < n → hpar c = i → b (p c) (p i) = false) ∨ i < bestOf b p n i ∧ hpar (bestOf b p n i) = i ∧ b (p (bestOf b p n i)) (p i) = true ∧ ∀ c, 0 < c → c < n → hpar c = i → b (p c) (p (bestOf b p n i)) = false) := by
  have hch : ∀ c, 0 < c → hpar c = i → c = 2 * i + 1 ∨ c = 2 * i + 2 := fun c h0 h => by unfold hpar at h; omega
  have hp1 : hpar (2 * i + 1) = i := by unfold hpar; omega
  have hp2 : hpar (2 * i + 2) = i := by unfold hpar; omega
  have fin2 : ∀ m, bestOf b p n i = m → m < n → i < m → hpar m = i → b (p m) (p i) = true → (∀ c, 0 < c → c < n → hpar c = i → b (p c) (p m) = false) → bestOf b p n i < n ∧ (bestOf b p n i = i ∧ (∀ c, 0 < c → c < n → hpar c = i → b (p c) (p i) = false) ∨ i < bestOf b p n i ∧ hpar (bestOf b p n i) = i ∧ b (p (bestOf b p n i)) (p i) = true ∧ ∀ c, 0 < c → c < n → hpar c = i → b (p c) (p (bestOf b p n i)) = false) := by
    intro m e h1 h2 h3 h4 h5
    rw [e]; exact ⟨h1, .inr ⟨h2, h3, h4, h5⟩⟩
  have fin1 : bestOf b p n i = i → (∀ c, 0 < c → c < n → hpar c = i → b (p c) (p i) = false) → bestOf b p n i < n ∧ (bestOf b p n i = i ∧ (∀ c, 0 < c → c < n → hpar c = i → b (p c) (p i) = false) ∨ i < bestOf b p n i ∧ hpar (bestOf b p n i) = i ∧ b (p (bestOf b p n i)) (p i) = true ∧ ∀ c, 0 < c → c < n → hpar c = i → b (p c) (p (bestOf b p n i)) = false) := fun e h => ⟨by rw [e]; exact hi, .inl ⟨e, h⟩⟩
  by_cases h2 : 2 * i + 2 < n
  · have hb : bestOf b p n i = better b p (2 * i + 2) (better b p (2 * i + 1) i) := by unfold bestOf; rw [if_pos h2]
    cases e1 : b (p (2 * i + 1)) (p i) with
    | true =>
      rw [better_t e1] at hb
      cases e2 : b (p (2 * i + 2)) (p (2 * i + 1)) with
      | true =>
        rw [better_t e2] at hb
        refine fin2 _ hb h2 (by omega) hp2 (ho.tr _ _ _ e2 e1) (fun c h0 hc h => ?_)
        rcases hch c h0 h with rfl | rfl
        · exact ho.asym e2
        · exact ho.irr _
      | false =>
        rw [better_f e2] at hb
        refine fin2 _ hb (by omega) (by omega) hp1 e1 (fun c h0 hc h => ?_)
        rcases hch c h0 h with rfl | rfl
        · exact ho.irr _
        · exact e2
    | false =>
      rw [better_f e1] at hb
      cases e2 : b (p (2 * i + 2)) (p i) with
      | true =>
        rw [better_t e2] at hb
        refine fin2 _ hb h2 (by omega) hp2 e2 (fun c h0 hc h => ?_)
        rcases hch c h0 h with rfl | rfl
        · exact ho.le_tr (ho.asym e2) e1
        · exact ho.irr _
      | false =>
        rw [better_f e2] at hb
        refine fin1 hb (fun c h0 hc h => ?_)
        rcases hch c h0 h with rfl | rfl
        · exact e1
        · exact e2
  · by_cases h1 : 2 * i + 1 < n
    · have hb : bestOf b p n i = better b p (2 * i + 1) i := by unfold bestOf; rw [if_neg h2, if_pos h1]
      cases e1 : b (p (2 * i + 1)) (p i) with
      | true =>
        rw [better_t e1] at hb
        refine fin2 _ hb (by omega) (by omega) hp1 e1 (fun c h0 hc h => ?_)
        rcases hch c h0 h with rfl | rfl
        · exact ho.irr _
        · omega
      | false =>
        rw [better_f e1] at hb
        refine fin1 hb (fun c h0 hc h => ?_)
        rcases hch c h0 h with rfl | rfl
        · exact e1
        · omega
    · refine fin1 (by unfold bestOf; rw [if_neg h2, if_neg h1]) (fun c h0 hc h => ?_)
      rcases hch c h0 h with rfl | rfl <;> omega
end Go.Proofs.Ytenhcpobncmedaa
