/- Locks that are slept for: the plain law (who waits for whom never goes round; how urgent a task is). -/
import Derived.Test.YtenhcpobncmedaaPrB
namespace Go.Proofs.Ytenhcpobncmedaa
set_option maxHeartbeats 400000
set_option linter.unusedVariables false
set_option linter.unusedSimpArgs false
/-- The first lock of the sixteen for which a task waits. -/
def wfor (F : Nat → List Int) (t : Int) : Option Nat := (List.range 16).find? fun i => (F i).contains t
def forI (F : Nat → List Int) (t : Int) : Int := match wfor F t with | some k => k | none => -1
theorem wfor_some {F : Nat → List Int} {t : Int} {k : Nat} (h : wfor F t = some k) : k < 16 ∧ t ∈ F k := by
  have h1 := List.mem_of_find?_eq_some h
  have h2 := List.find?_some h
  exact ⟨by simpa using h1, by simpa using h2⟩
theorem wfor_none {F : Nat → List Int} {t : Int} : wfor F t = none ↔ ∀ k, k < 16 → t ∉ F k := by
  unfold wfor
  rw [List.find?_eq_none]
  simp
theorem wfor_at {F : Nat → List Int} {t : Int} {k : Nat} (hk : k < 16) (h : (F k).contains t = true) (hn : ∀ j, j < k → (F j).contains t = false) : wfor F t = some k := by
  unfold wfor
  rw [List.find?_eq_some_iff_getElem]
  refine ⟨h, k, by simpa using hk, by simp, fun j hj => ?_⟩
  have := hn j hj
  simp at this ⊢
  exact this
theorem forI_at {F : Nat → List Int} {t : Int} {k : Nat} (hk : k < 16) (h : (F k).contains t = true) (hn : ∀ j, j < k → (F j).contains t = false) : forI F t = k := by
  unfold forI; rw [wfor_at hk h hn]
theorem forI_none {F : Nat → List Int} {t : Int} (hn : ∀ j, j < 16 → (F j).contains t = false) : forI F t = -1 := by
  unfold forI
  rw [wfor_none.2 (fun k hk h => by have := hn k hk; simp at this; exact this h)]
theorem forI_some {F : Nat → List Int} {t : Int} {k : Nat} (h : wfor F t = some k) : forI F t = k := by unfold forI; rw [h]
theorem forI_no {F : Nat → List Int} {t : Int} (h : wfor F t = none) : forI F t = -1 := by unfold forI; rw [h]
/-- Priorities, owners, rows. -/
structure LkS where
  P : Int → Option Int
  O : Nat → Int
  F : Nat → List Int
/-- An order of the tasks in which who waits stands ahead of whom he waits for. -/
structure Ord (s : LkS) (L : List Int) : Prop where
  nd : L.Nodup
  len : L.length ≤ 16
  all : ∀ t, 1 ≤ t → t ≤ 16 → t ∈ L
  sub : ∀ k, k < 16 → ∀ x ∈ s.F k, [x, s.O k].Sublist L
structure LkOk (s : LkS) : Prop where
  prio : ∀ t p, s.P t = some p → 1 ≤ t ∧ t ≤ 16 ∧ 0 ≤ p ∧ p < 8
  own : ∀ k, k < 16 → s.O k ≠ 0 → (s.P (s.O k)).isSome = true
  mem : ∀ k, k < 16 → ∀ x ∈ s.F k, (s.P x).isSome = true ∧ s.O k ≠ 0
  one : ∀ j k x, j < 16 → k < 16 → x ∈ s.F j → x ∈ s.F k → j = k
  nd : ∀ k, k < 16 → (s.F k).Nodup
  ord : ∃ L, Ord s L
theorem sub_lt {x y : Int} : ∀ {L : List Int}, L.Nodup → [x, y].Sublist L → L.idxOf x < L.idxOf y
  | [], _, h => by cases h
  | a :: L, hn, h => by
    obtain ⟨ha, hL⟩ := List.nodup_cons.1 hn
    cases h with
    | cons _ h =>
      have hx : x ∈ L := h.subset (by simp)
      have hy : y ∈ L := h.subset (by simp)
      have hxa : a ≠ x := fun e => ha (e ▸ hx)
      have hya : a ≠ y := fun e => ha (e ▸ hy)
      have := sub_lt hL h
      rw [List.idxOf_cons, List.idxOf_cons]
      have e1 : (a == x) = false := by simpa using hxa
      have e2 : (a == y) = false := by simpa using hya
      rw [e1, e2]
      simpa using this
    | cons_cons _ h =>
      have hy : y ∈ L := h.subset (by simp)
      have hya : x ≠ y := fun e => ha (e ▸ hy)
      rw [List.idxOf_cons, List.idxOf_cons]
      have e2 : (x == y) = false := by simpa using hya
      rw [e2]
      simp
namespace LkOk
variable {s : LkS}
theorem task {t : Int} (h : LkOk s) (ht : (s.P t).isSome = true) : 1 ≤ t ∧ t ≤ 16 := by
  obtain ⟨p, hp⟩ := Option.isSome_iff_exists.1 ht
  have := h.prio t p hp
  exact ⟨this.1, this.2.1⟩
theorem no0 (h : LkOk s) : s.P 0 = none := by
  cases e : s.P 0 with
  | none => rfl
  | some p => have := (h.prio 0 p e).1; omega
theorem wfor_eq {t : Int} {k : Nat} (h : LkOk s) (hk : k < 16) (ht : t ∈ s.F k) : wfor s.F t = some k := by
  cases e : wfor s.F t with
  | none => exact absurd ht (wfor_none.1 e k hk)
  | some j =>
    obtain ⟨hj, hj'⟩ := wfor_some e
    rw [h.one j k t hj hk hj' ht]
theorem len (h : LkOk s) {k : Nat} (hk : k < 16) : (s.F k).length ≤ 16 := by
  obtain ⟨L, hL⟩ := h.ord
  exact Nat.le_trans (List.Nodup.length_le_of_subset (h.nd k hk) (fun x hx => (hL.sub k hk x hx).subset (by simp))) hL.len
end LkOk
theorem Ord.lt {s : LkS} {L : List Int} (h : Ord s L) {t : Int} (h1 : 1 ≤ t) (h2 : t ≤ 16) : L.idxOf t < 16 :=
  Nat.lt_of_lt_of_le (List.idxOf_lt_length_of_mem (h.all t h1 h2)) h.len
theorem Ord.up {s : LkS} {L : List Int} (h : Ord s L) {k : Nat} (hk : k < 16) {x : Int} (hx : x ∈ s.F k) : L.idxOf x < L.idxOf (s.O k) := sub_lt h.nd (h.sub k hk x hx)
/-- Does x wait for y, by however many locks? -/
inductive Reach (s : LkS) : Int → Int → Prop
  | refl (x : Int) : Reach s x x
  | step {k : Nat} {x y : Int} : k < 16 → x ∈ s.F k → Reach s (s.O k) y → Reach s x y
theorem Reach.more {s : LkS} {x y : Int} {k : Nat} (h : Reach s x y) (hk : k < 16) (hy : y ∈ s.F k) : Reach s x (s.O k) := by
  induction h with
  | refl x => exact .step hk hy (.refl _)
  | step h1 h2 _ ih => exact .step h1 h2 (ih hy)
theorem Reach.none {s : LkS} {x y : Int} (h : wfor s.F x = none) : Reach s x y ↔ x = y := by
  constructor
  · intro hr
    cases hr with
    | refl => rfl
    | step hk hx _ => exact absurd hx (wfor_none.1 h _ hk)
  · rintro rfl; exact .refl _
theorem Reach.some {s : LkS} {x y : Int} {k : Nat} (hs : LkOk s) (h : wfor s.F x = some k) : Reach s x y ↔ x = y ∨ Reach s (s.O k) y := by
  obtain ⟨hk, hx⟩ := wfor_some h
  constructor
  · intro hr
    cases hr with
    | refl => exact .inl rfl
    | step hj hxj hr => rw [hs.one _ _ _ hj hk hxj hx] at hr; exact .inr hr
  · rintro (rfl | hr)
    · exact .refl _
    · exact .step hk hx hr
theorem Reach.le {s : LkS} {L : List Int} (hL : Ord s L) {x y : Int} (h : Reach s x y) : L.idxOf x ≤ L.idxOf y := by
  induction h with
  | refl => exact Nat.le_refl _
  | step hk hx _ ih => have := hL.up hk hx; omega
/-! ### what the calls turn -/
theorem lk_start (s : LkS) (h1 : s.P = fun _ => none) (h2 : s.O = fun _ => 0) (h3 : s.F = fun _ => []) : LkOk s := by
  cases s; dsimp only at h1 h2 h3; subst h1; subst h2; subst h3
  refine ⟨fun t p h => by simp at h, fun k _ h => by simp at h, fun k _ x h => by simp at h, fun j k x _ _ h => by simp at h, fun k _ => by simp, [1, 2, 3, 4, 5, 6, 7, 8, 9, 10, 11, 12, 13, 14, 15, 16], by decide, by decide, fun t h1 h2 => ?_, fun k _ x h => by simp at h⟩
  simp; omega
theorem LkOk.setP {s : LkS} (h : LkOk s) {t p : Int} (h1 : 1 ≤ t) (h2 : t ≤ 16) (h3 : 0 ≤ p) (h4 : p < 8) : LkOk ⟨fun z => if z = t then some p else s.P z, s.O, s.F⟩ := by
  have hp : ∀ z, (s.P z).isSome = true → (if z = t then some p else s.P z).isSome = true := fun z hz => by split <;> simp [hz]
  obtain ⟨L, hL⟩ := h.ord
  refine ⟨fun z q hz => ?_, fun k hk hz => hp _ (h.own k hk hz), fun k hk x hx => ⟨hp _ (h.mem k hk x hx).1, (h.mem k hk x hx).2⟩, h.one, h.nd, L, hL.nd, hL.len, hL.all, hL.sub⟩
  dsimp only at hz
  split at hz
  · rename_i e; subst e; injection hz with hz; subst hz; exact ⟨h1, h2, h3, h4⟩
  · exact h.prio z q hz
theorem LkOk.take {s : LkS} (h : LkOk s) {t : Int} {k : Nat} (hk : k < 16) (ht : (s.P t).isSome = true) (ho : s.O k = 0) : LkOk ⟨s.P, updV s.O k t, s.F⟩ := by
  obtain ⟨L, hL⟩ := h.ord
  have he : ∀ j, j < 16 → ∀ x ∈ s.F j, j ≠ k := fun j hj x hx e => (h.mem j hj x hx).2 (e ▸ ho)
  refine ⟨h.prio, fun j hj hz => ?_, fun j hj x hx => ⟨(h.mem j hj x hx).1, ?_⟩, h.one, h.nd, L, hL.nd, hL.len, hL.all, fun j hj x hx => ?_⟩
  · dsimp only at hz ⊢
    by_cases e : j = k
    · subst e; rw [updV_same]; exact ht
    · rw [updV_other _ e] at hz ⊢; exact h.own j hj hz
  · dsimp only; rw [updV_other _ (he j hj x hx)]; exact (h.mem j hj x hx).2
  · dsimp only; rw [updV_other _ (he j hj x hx)]; exact hL.sub j hj x hx
theorem sub_filter {x y : Int} {L : List Int} (p : Int → Bool) (h : [x, y].Sublist L) (hx : p x = true) (hy : p y = true) : [x, y].Sublist (L.filter p) := by
  have := h.filter p
  simpa [hx, hy] using this
theorem nodup_parts {L : List Int} (p : Int → Bool) (h : L.Nodup) : (L.filter (fun x => !p x) ++ L.filter p).Nodup := by
  rw [List.nodup_append]
  refine ⟨h.filter _, h.filter _, fun x hx y hy e => ?_⟩
  subst e
  have h1 := (List.mem_filter.1 hx).2
  have h2 := (List.mem_filter.1 hy).2
  simp [h2] at h1
theorem len_parts (L : List Int) (p : Int → Bool) : (L.filter (fun x => !p x) ++ L.filter p).length = L.length := by
  induction L with
  | nil => rfl
  | cons a L ih =>
    simp only [List.length_append] at ih
    by_cases h : p a = true
    · simp [List.filter_cons, h]; omega
    · simp [List.filter_cons, h]; omega
/-- Who is in p stands behind now: p is closed upwards. -/
theorem Ord.behind {s s' : LkS} {L : List Int} (h : Ord s L) (p : Int → Bool) (hs : ∀ k, k < 16 → ∀ x ∈ s'.F k, ([x, s'.O k].Sublist L ∧ (p x = true → p (s'.O k) = true)) ∨ (p x = false ∧ p (s'.O k) = true ∧ x ∈ L ∧ s'.O k ∈ L)) : Ord s' (L.filter (fun x => !p x) ++ L.filter p) := by
  refine ⟨nodup_parts p h.nd, by rw [len_parts]; exact h.len, fun t h1 h2 => ?_, fun k hk x hx => ?_⟩
  · have := h.all t h1 h2
    by_cases hp : p t = true
    · exact List.mem_append_right _ (List.mem_filter.2 ⟨this, hp⟩)
    · exact List.mem_append_left _ (List.mem_filter.2 ⟨this, by simp [hp]⟩)
  · have hmix : p x = false → p (s'.O k) = true → x ∈ L → s'.O k ∈ L → [x, s'.O k].Sublist (L.filter (fun x => !p x) ++ L.filter p) := fun h1 h2 h3 h4 => by
      have e1 : [x].Sublist (L.filter (fun x => !p x)) := List.singleton_sublist.2 (List.mem_filter.2 ⟨h3, by simp [h1]⟩)
      have e2 : [s'.O k].Sublist (L.filter p) := List.singleton_sublist.2 (List.mem_filter.2 ⟨h4, h2⟩)
      exact e1.append e2
    rcases hs k hk x hx with ⟨h1, h2⟩ | ⟨h1, h2, h3, h4⟩
    · cases hpx : p x with
      | true => exact (sub_filter p h1 hpx (h2 hpx)).trans (List.sublist_append_right _ _)
      | false =>
        cases hpy : p (s'.O k) with
        | true => exact hmix hpx hpy (h1.subset (by simp)) (h1.subset (by simp))
        | false => exact (sub_filter _ h1 (by simp [hpx]) (by simp [hpy])).trans (List.sublist_append_left _ _)
    · exact hmix h1 h2 h3 h4
open Classical in
theorem LkOk.wait {s : LkS} (h : LkOk s) {t : Int} {k : Nat} (hk : k < 16) (ht : (s.P t).isSome = true) (hw : wfor s.F t = none) (ho : s.O k ≠ 0) (hr : ¬ Reach s (s.O k) t) : LkOk ⟨s.P, s.O, updV s.F k (s.F k ++ [t])⟩ := by
  obtain ⟨L, hL⟩ := h.ord
  have hm : ∀ j x, x ∈ updV s.F k (s.F k ++ [t]) j → x ∈ s.F j ∨ (j = k ∧ x = t) := fun j x hx => by
    by_cases e : j = k
    · subst e
      rw [updV_same] at hx
      rcases List.mem_append.1 hx with hx | hx
      · exact .inl hx
      · exact .inr ⟨rfl, by simpa using hx⟩
    · rw [updV_other _ e] at hx; exact .inl hx
  have hno := wfor_none.1 hw
  have htask := h.task ht
  refine ⟨h.prio, h.own, fun j hj x hx => ?_, fun i j x hi hj hx hy => ?_, fun j hj => ?_, _, hL.behind (fun y => decide (Reach s (s.O k) y)) (fun j hj x hx => ?_)⟩
  · rcases hm j x hx with hx | ⟨rfl, rfl⟩
    · exact h.mem j hj x hx
    · exact ⟨ht, ho⟩
  · rcases hm i x hx with h1 | ⟨rfl, rfl⟩
    · rcases hm j x hy with h2 | ⟨rfl, rfl⟩
      · exact h.one i j x hi hj h1 h2
      · exact absurd h1 (hno i hi)
    · rcases hm j x hy with h2 | ⟨rfl, _⟩
      · exact absurd h2 (hno j hj)
      · rfl
  · dsimp only
    by_cases e : j = k
    · subst e
      rw [updV_same, List.nodup_append]
      refine ⟨h.nd j hj, by simp, fun x hx y hy e => ?_⟩
      subst e
      rw [List.mem_singleton] at hy
      subst hy
      exact hno j hj hx
    · rw [updV_other _ e]; exact h.nd j hj
  · rcases hm j x hx with hx | ⟨rfl, rfl⟩
    · refine .inl ⟨hL.sub j hj x hx, fun hp => ?_⟩
      simp only [decide_eq_true_eq] at hp ⊢
      exact hp.more hj hx
    · have ho' := h.task (h.own _ hj ho)
      exact .inr ⟨by simpa using hr, by simpa using Reach.refl _, hL.all _ htask.1 htask.2, hL.all _ ho'.1 ho'.2⟩
theorem LkOk.drop {s : LkS} (h : LkOk s) (t : Int) : LkOk ⟨s.P, s.O, fun i => (s.F i).filter (· != t)⟩ := by
  obtain ⟨L, hL⟩ := h.ord
  have hm : ∀ j x, x ∈ (s.F j).filter (· != t) → x ∈ s.F j := fun j x hx => (List.mem_filter.1 hx).1
  exact ⟨h.prio, h.own, fun j hj x hx => h.mem j hj x (hm j x hx), fun i j x hi hj hx hy => h.one i j x hi hj (hm i x hx) (hm j x hy), fun j hj => (h.nd j hj).filter _, L, hL.nd, hL.len, hL.all, fun j hj x hx => hL.sub j hj x (hm j x hx)⟩
theorem LkOk.free {s : LkS} (h : LkOk s) {t : Int} {k : Nat} (hk : k < 16) (ht : t ∈ s.F k) : LkOk ⟨s.P, updV s.O k t, fun i => (s.F i).filter (· != t)⟩ := by
  obtain ⟨L, hL⟩ := h.ord
  have hm : ∀ j x, x ∈ (s.F j).filter (· != t) → x ∈ s.F j ∧ x ≠ t := fun j x hx => by
    have := List.mem_filter.1 hx
    exact ⟨this.1, by simpa using this.2⟩
  have hp := (h.mem k hk t ht).1
  have htask := h.task hp
  have ht0 : t ≠ 0 := by omega
  refine ⟨h.prio, fun j hj hz => ?_, fun j hj x hx => ⟨(h.mem j hj x (hm j x hx).1).1, ?_⟩, fun i j x hi hj hx hy => h.one i j x hi hj (hm i x hx).1 (hm j x hy).1, fun j hj => (h.nd j hj).filter _, _, hL.behind (fun y => y == t) (fun j hj x hx => ?_)⟩
  · dsimp only at hz ⊢
    by_cases e : j = k
    · subst e; rw [updV_same]; exact hp
    · rw [updV_other _ e] at hz ⊢; exact h.own j hj hz
  · dsimp only
    by_cases e : j = k
    · subst e; rw [updV_same]; exact ht0
    · rw [updV_other _ e]; exact (h.mem j hj x (hm j x hx).1).2
  · obtain ⟨h1, h2⟩ := hm j x hx
    have hxt := h.task (h.mem j hj x h1).1
    dsimp only
    by_cases e : j = k
    · subst e
      rw [updV_same]
      exact .inr ⟨by simpa using h2, by simp, hL.all _ hxt.1 hxt.2, hL.all _ htask.1 htask.2⟩
    · rw [updV_other _ e]
      exact .inl ⟨hL.sub j hj x h1, fun h3 => absurd (by simpa using h3) h2⟩
theorem LkOk.free0 {s : LkS} (h : LkOk s) {k : Nat} (hk : k < 16) (he : s.F k = []) : LkOk ⟨s.P, updV s.O k 0, s.F⟩ := by
  obtain ⟨L, hL⟩ := h.ord
  have hne : ∀ j x, x ∈ s.F j → j ≠ k := fun j x hx e => by subst e; rw [he] at hx; cases hx
  refine ⟨h.prio, fun j hj hz => ?_, fun j hj x hx => ⟨(h.mem j hj x hx).1, ?_⟩, h.one, h.nd, L, hL.nd, hL.len, hL.all, fun j hj x hx => ?_⟩
  · dsimp only at hz ⊢
    by_cases e : j = k
    · subst e; rw [updV_same] at hz; exact absurd rfl hz
    · rw [updV_other _ e] at hz ⊢; exact h.own j hj hz
  · dsimp only; rw [updV_other _ (hne j x hx)]; exact (h.mem j hj x hx).2
  · dsimp only; rw [updV_other _ (hne j x hx)]; exact hL.sub j hj x hx
/-- Where a task waits for nothing, or for lock k, only row k turns if it goes. -/
theorem filter_absent {xs : List Int} {t : Int} (h : t ∉ xs) : xs.filter (· != t) = xs := by
  rw [List.filter_eq_self]
  intro x hx
  simp
  exact fun e => h (e ▸ hx)
theorem LkOk.without {s : LkS} (h : LkOk s) {t : Int} {k : Nat} (hk : k < 16) (ht : t ∈ s.F k) : ∀ i, i < 16 → (s.F i).filter (· != t) = updV s.F k ((s.F k).filter (· != t)) i := fun i hi => by
  by_cases e : i = k
  · subst e; rw [updV_same]
  · rw [updV_other _ e]; exact filter_absent (fun hx => e (h.one i k t hi hk hx ht))
theorem filter_at {xs : List Int} (h : xs.Nodup) {b : Nat} (hb : b < xs.length) : xs.filter (· != xs.getD b 0) = xs.take b ++ xs.drop (b + 1) := by
  have e : xs = xs.take b ++ xs.getD b 0 :: xs.drop (b + 1) := by
    have : xs.getD b 0 = xs[b] := by simp [List.getD, List.getElem?_eq_getElem hb]
    rw [this, List.getElem_cons_drop hb, List.take_append_drop]
  rw [e] at h
  have h1 := List.nodup_append.1 h
  have h2 := List.nodup_cons.1 h1.2.1
  have h3 : xs.getD b 0 ∉ xs.take b := fun hx => h1.2.2 _ hx _ (List.mem_cons_self) rfl
  generalize hy : xs.getD b 0 = y at *
  conv => lhs; rw [e]
  rw [List.filter_append, List.filter_cons, filter_absent h3, filter_absent h2.1]
  simp
end Go.Proofs.Ytenhcpobncmedaa
