/- Locks that are slept for: how urgent a task is (plain law), and who comes next. -/
import Derived.Test.YtenhcpobncmedaaSeA
namespace Go.Proofs.Ytenhcpobncmedaa
set_option maxHeartbeats 400000
set_option linter.unusedVariables false
set_option linter.unusedSimpArgs false
def accI (f : Int → Int) (p : Int) (xs : List Int) : Int := xs.foldl (fun p x => max p (f x)) p
theorem accI_nil (f : Int → Int) (p : Int) : accI f p [] = p := rfl
theorem accI_snoc (f : Int → Int) (p : Int) (xs : List Int) (x : Int) : accI f p (xs ++ [x]) = max (accI f p xs) (f x) := by simp [accI]
theorem accI_ge {f : Int → Int} : ∀ {xs : List Int} {p : Int}, p ≤ accI f p xs ∧ ∀ x ∈ xs, f x ≤ accI f p xs
  | [], p => ⟨Int.le_refl _, fun x hx => by cases hx⟩
  | y :: xs, p => by
    have ih := accI_ge (f := f) (xs := xs) (p := max p (f y))
    have e : accI f p (y :: xs) = accI f (max p (f y)) xs := rfl
    rw [e]
    refine ⟨by omega, fun x hx => ?_⟩
    rcases List.mem_cons.1 hx with rfl | hx
    · omega
    · exact ih.2 x hx
theorem accI_ub {f : Int → Int} {b : Int} : ∀ {xs : List Int} {p : Int}, p ≤ b → (∀ x ∈ xs, f x ≤ b) → accI f p xs ≤ b
  | [], p, h, _ => h
  | y :: xs, p, h, hx => accI_ub (xs := xs) (p := max p (f y)) (by have := hx y (by simp); omega) (fun x h' => hx x (by simp [h']))
theorem accI_congr {f g : Int → Int} : ∀ {xs : List Int} {p : Int}, (∀ x ∈ xs, f x = g x) → accI f p xs = accI g p xs
  | [], _, _ => rfl
  | y :: xs, p, h => by
    show accI f (max p (f y)) xs = accI g (max p (g y)) xs
    rw [h y (by simp)]
    exact accI_congr (fun x hx => h x (by simp [hx]))
/-- Who waits for one of the first k locks, and t holds it. -/
def kids (s : LkS) (t : Int) (k : Nat) : List Int := (List.range k).flatMap fun i => if s.O i = t then s.F i else []
theorem kids_zero (s : LkS) (t : Int) : kids s t 0 = [] := rfl
theorem kids_yes {s : LkS} {t : Int} {k : Nat} (h : s.O k = t) : kids s t (k + 1) = kids s t k ++ s.F k := by simp [kids, List.range_succ, h]
theorem kids_no {s : LkS} {t : Int} {k : Nat} (h : s.O k ≠ t) : kids s t (k + 1) = kids s t k := by simp [kids, List.range_succ, h]
theorem mem_kids {s : LkS} {t x : Int} {k : Nat} : x ∈ kids s t k ↔ ∃ i, i < k ∧ s.O i = t ∧ x ∈ s.F i := by
  unfold kids
  rw [List.mem_flatMap]
  constructor
  · rintro ⟨i, hi, hx⟩
    by_cases h : s.O i = t
    · rw [if_pos h] at hx; exact ⟨i, by simpa using hi, h, hx⟩
    · rw [if_neg h] at hx; cases hx
  · rintro ⟨i, hi, h, hx⟩
    exact ⟨i, by simpa using hi, by rw [if_pos h]; exact hx⟩
def effN (s : LkS) : Nat → Int → Int
  | 0, t => (s.P t).getD 0
  | n + 1, t => accI (effN s n) ((s.P t).getD 0) (kids s t 16)
def eff (s : LkS) (t : Int) : Int := effN s 16 t
theorem effN_eq {s : LkS} {L : List Int} (hL : Ord s L) : ∀ (n m : Nat) (t : Int), L.idxOf t < n → L.idxOf t < m → effN s n t = effN s m t
  | 0, m, t, h, _ => by omega
  | n + 1, 0, t, _, h => by omega
  | n + 1, m + 1, t, h1, h2 => accI_congr fun x hx => by
    obtain ⟨i, hi, ho, hx⟩ := mem_kids.1 hx
    have := hL.up hi hx
    rw [ho] at this
    exact effN_eq hL n m x (by omega) (by omega)
theorem eff_fix {s : LkS} {L : List Int} (hL : Ord s L) {t : Int} (ht : L.idxOf t < 16) : eff s t = accI (eff s) ((s.P t).getD 0) (kids s t 16) := by
  unfold eff
  rw [effN_eq hL 16 17 t ht (by omega)]
  exact accI_congr fun x _ => rfl
theorem effN_rng {s : LkS} (h : LkOk s) : ∀ (n : Nat) (t : Int), 0 ≤ effN s n t ∧ effN s n t < 8
  | 0, t => by
    show 0 ≤ (s.P t).getD 0 ∧ (s.P t).getD 0 < 8
    cases e : s.P t with
    | none => simp
    | some p => have := h.prio t p e; simpa using ⟨this.2.2.1, this.2.2.2⟩
  | n + 1, t => by
    have h0 := effN_rng h 0 t
    have h1 := (accI_ge (f := effN s n) (xs := kids s t 16) (p := (s.P t).getD 0)).1
    have h2 := accI_ub (f := effN s n) (b := 7) (xs := kids s t 16) (p := (s.P t).getD 0) (by have := h0.2; show effN s 0 t ≤ 7; omega) (fun x _ => by have := (effN_rng h n x).2; omega)
    have h3 : 0 ≤ (s.P t).getD 0 := h0.1
    exact ⟨by show 0 ≤ accI _ _ _; omega, by show accI _ _ _ < 8; omega⟩
theorem eff_rng {s : LkS} (h : LkOk s) (t : Int) : 0 ≤ eff s t ∧ eff s t < 8 := effN_rng h 16 t
/-- The place of the first one that is greatest, of the first j. -/
def pickN (E : Int → Int) (xs : List Int) : Nat → Nat
  | 0 => 0
  | j + 1 => if j ≠ 0 ∧ E (xs.getD j 0) ≤ E (xs.getD (pickN E xs j) 0) then pickN E xs j else j
theorem pickN_lt {E : Int → Int} {xs : List Int} : ∀ {j : Nat}, 0 < j → pickN E xs j < j
  | 0, h => by omega
  | j + 1, _ => by
    unfold pickN
    split
    · rename_i h; have := pickN_lt (E := E) (xs := xs) (j := j) (by omega); omega
    · omega
theorem pickN_stay {E : Int → Int} {xs : List Int} {j : Nat} (h0 : j ≠ 0) (h : E (xs.getD j 0) ≤ E (xs.getD (pickN E xs j) 0)) : pickN E xs (j + 1) = pickN E xs j := by
  show (if _ then _ else _) = _
  rw [if_pos ⟨h0, h⟩]
theorem pickN_new {E : Int → Int} {xs : List Int} {j : Nat} (h : j = 0 ∨ E (xs.getD (pickN E xs j) 0) < E (xs.getD j 0)) : pickN E xs (j + 1) = j := by
  show (if _ then _ else _) = _
  rw [if_neg]
  rintro ⟨h1, h2⟩
  rcases h with h | h <;> omega
/-- The two loops' variables behind j rounds. -/
def bestI (E : Int → Int) (xs : List Int) (j : Nat) : Int := if j = 0 then -1 else pickN E xs j
def mostI (E : Int → Int) (xs : List Int) (j : Nat) : Int := if j = 0 then -1 else E (xs.getD (pickN E xs j) 0)
def nextI (E : Int → Int) (xs : List Int) (j : Nat) : Int := if j = 0 then 0 else xs.getD (pickN E xs j) 0
theorem pick_round {E : Int → Int} {xs : List Int} {j : Nat} (hE : ∀ x, 0 ≤ E x) :
    (mostI E xs j < E (xs.getD j 0) → bestI E xs (j + 1) = j ∧ mostI E xs (j + 1) = E (xs.getD j 0) ∧ nextI E xs (j + 1) = xs.getD j 0) ∧
    (¬ mostI E xs j < E (xs.getD j 0) → bestI E xs (j + 1) = bestI E xs j ∧ mostI E xs (j + 1) = mostI E xs j ∧ nextI E xs (j + 1) = nextI E xs j) := by
  unfold bestI mostI nextI
  by_cases h0 : j = 0
  · subst h0
    have := hE (xs.getD 0 0)
    have e : pickN E xs 1 = 0 := pickN_new (.inl rfl)
    simp only [if_true, Nat.zero_add, Nat.one_ne_zero, if_false]
    refine ⟨fun _ => ⟨by simp [e], by simp [e], by simp [e]⟩, fun h => ?_⟩
    omega
  · simp only [if_neg h0, if_neg (Nat.succ_ne_zero j)]
    refine ⟨fun h => ?_, fun h => ?_⟩
    · rw [pickN_new (.inr h)]; exact ⟨rfl, rfl, rfl⟩
    · rw [pickN_stay h0 (by omega)]; exact ⟨rfl, rfl, rfl⟩
/-! ### the reference: a map of priorities that grows till nothing grows -/
/-- Behind r rounds, and behind the first c pairs of the next one. -/
structure EffAt (s : LkS) (L : List Int) (r : Nat) (done : Int → Int → Prop) (M : Int → Option Int) : Prop where
  there : ∀ t, (M t).isSome = (s.P t).isSome
  low : ∀ t p m, s.P t = some p → M t = some m → p ≤ m
  high : ∀ t m, M t = some m → m ≤ eff s t
  full : ∀ t m, L.idxOf t < r → M t = some m → m = eff s t
  grown : ∀ x t m, done x t → L.idxOf t ≤ r → M t = some m → eff s x ≤ m
theorem EffAt.start {s : LkS} {L : List Int} (h : LkOk s) (hL : Ord s L) : EffAt s L 0 (fun _ _ => False) s.P :=
  ⟨fun _ => rfl, fun t p m h1 h2 => by rw [h1] at h2; injection h2 with h2; omega, fun t m hm => by
    have ht := h.task (by rw [hm]; rfl : (s.P t).isSome = true)
    rw [eff_fix hL (hL.lt ht.1 ht.2), hm]
    exact (accI_ge (f := eff s) (xs := kids s t 16) (p := m)).1, fun t m h1 => by omega, fun x t m h1 => h1.elim⟩
theorem EffAt.next {s : LkS} {L : List Int} {r : Nat} {done : Int → Int → Prop} {M : Int → Option Int} (hs : LkOk s) (hL : Ord s L) (h : EffAt s L r done M) (hd : ∀ i, i < 16 → ∀ x ∈ s.F i, done x (s.O i)) : EffAt s L (r + 1) (fun _ _ => False) M := by
  refine ⟨h.there, h.low, h.high, fun t m ht hm => ?_, fun x t m h1 => h1.elim⟩
  refine Int.le_antisymm (h.high t m hm) ?_
  have htask := hs.task (by rw [← h.there, hm]; rfl : (s.P t).isSome = true)
  rw [eff_fix hL (hL.lt htask.1 htask.2)]
  obtain ⟨p, hp⟩ := Option.isSome_iff_exists.1 (by rw [← h.there, hm]; rfl : (s.P t).isSome = true)
  refine accI_ub (by rw [hp]; exact h.low t p m hp hm) fun x hx => ?_
  obtain ⟨i, hi, ho, hx⟩ := mem_kids.1 hx
  exact h.grown x t m (ho ▸ hd i hi x hx) (by omega) hm
theorem EffAt.more {s : LkS} {L : List Int} {r : Nat} {done : Int → Int → Prop} {M : Int → Option Int} (h : EffAt s L r done M) {done' : Int → Int → Prop} (hd : ∀ x t, done' x t → done x t) : EffAt s L r done' M :=
  ⟨h.there, h.low, h.high, h.full, fun x t m h1 => h.grown x t m (hd x t h1)⟩
/-- One pair: x waits for o. -/
theorem EffAt.pair {s : LkS} {L : List Int} {r k : Nat} {done : Int → Int → Prop} {M : Int → Option Int} (hs : LkOk s) (hL : Ord s L) (h : EffAt s L r done M) {x mx mo : Int} (hk : k < 16) (hx : x ∈ s.F k) (hmx : M x = some mx) (hmo : M (s.O k) = some mo) :
    EffAt s L r (fun y t => done y t ∨ (y = x ∧ t = s.O k)) (fun z => if z = s.O k then some (max mo mx) else M z) := by
  have hup := hL.up hk hx
  have hot := hs.task (by rw [← h.there, hmo]; rfl : (s.P (s.O k)).isSome = true)
  have hle : eff s x ≤ eff s (s.O k) := by
    rw [eff_fix hL (hL.lt hot.1 hot.2)]
    exact (accI_ge (f := eff s) (xs := kids s (s.O k) 16) (p := (s.P (s.O k)).getD 0)).2 x (mem_kids.2 ⟨k, hk, rfl, hx⟩)
  have h1 := h.high _ _ hmx
  have h2 := h.high _ _ hmo
  have hget : ∀ t m, (if t = s.O k then some (max mo mx) else M t) = some m → (t = s.O k ∧ m = max mo mx) ∨ (t ≠ s.O k ∧ M t = some m) := fun t m hm => by
    by_cases e : t = s.O k
    · rw [if_pos e] at hm; injection hm with hm; exact .inl ⟨e, hm.symm⟩
    · rw [if_neg e] at hm; exact .inr ⟨e, hm⟩
  refine ⟨fun t => ?_, fun t p m hp hm => ?_, fun t m hm => ?_, fun t m ht hm => ?_, fun y t m hy ht hm => ?_⟩
  · by_cases e : t = s.O k
    · rw [if_pos e, e, ← h.there, hmo]; rfl
    · rw [if_neg e]; exact h.there t
  · rcases hget t m hm with ⟨rfl, rfl⟩ | ⟨_, hm⟩
    · have := h.low _ p mo hp hmo; omega
    · exact h.low t p m hp hm
  · rcases hget t m hm with ⟨rfl, rfl⟩ | ⟨_, hm⟩
    · omega
    · exact h.high t m hm
  · rcases hget t m hm with ⟨rfl, rfl⟩ | ⟨_, hm⟩
    · have := h.full _ mo ht hmo; omega
    · exact h.full t m ht hm
  · rcases hget t m hm with ⟨rfl, rfl⟩ | ⟨hne, hm⟩
    · rcases hy with hy | ⟨rfl, _⟩
      · have := h.grown y _ mo hy ht hmo; omega
      · have := h.full _ mx (by omega) hmx; omega
    · rcases hy with hy | ⟨_, e⟩
      · exact h.grown y t m hy ht hm
      · exact absurd e hne
theorem EffAt.done {s : LkS} {L : List Int} {r : Nat} {done : Int → Int → Prop} {M : Int → Option Int} (hs : LkOk s) (hL : Ord s L) (h : EffAt s L r done M) (hr : 16 ≤ r) {t : Int} (ht : (s.P t).isSome = true) : M t = some (eff s t) := by
  obtain ⟨m, hm⟩ := Option.isSome_iff_exists.1 ((h.there t).trans ht)
  have h1 := hs.task ht
  rw [hm, h.full t m (by have := hL.lt h1.1 h1.2; omega) hm]
end Go.Proofs.Ytenhcpobncmedaa
