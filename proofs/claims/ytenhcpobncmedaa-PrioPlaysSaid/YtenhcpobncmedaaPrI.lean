/- The law ringlaw1.PrioPlays: what is held between two plays. -/
import Derived.Test.YtenhcpobncmedaaPrF
import Derived.Test.YtenhcpobncmedaaPrH
namespace Go.Proofs.Ytenhcpobncmedaa
open Go.RowKit
set_option maxHeartbeats 400000
set_option linter.unusedVariables false
set_option linter.unusedSimpArgs false
theorem nd_len : ∀ (n : Nat) (l : List Int), l.Nodup → (∀ x ∈ l, 0 ≤ x ∧ x < n) → l.length ≤ n
  | 0, l, _, h => by
    cases l with
    | nil => simp
    | cons a l => have := h a (by simp); omega
  | n + 1, l, hn, h => by
    have h1 := nd_len n (l.erase n) (hn.erase _) (fun x hx => by
      have hx' := (hn.mem_erase_iff).1 hx
      have := h x hx'.2
      have : x ≠ n := hx'.1
      omega)
    have := List.length_erase_le (a := (n : Int)) (l := l)
    by_cases hm : (n : Int) ∈ l
    · rw [List.length_erase_of_mem hm] at h1; omega
    · rw [List.erase_of_not_mem hm] at h1; omega
/-- Each task from 1 to 16 stands in one place at most. -/
structure PInv (F : Nat → List Int) : Prop where
  nd : ∀ i, i < 8 → (F i).Nodup
  dj : ∀ i j t, i < 8 → j < 8 → t ∈ F i → t ∈ F j → i = j
  rg : ∀ i t, i < 8 → t ∈ F i → 1 ≤ t ∧ t ≤ 16
theorem PInv.len {F : Nat → List Int} (h : PInv F) : ∀ i, i < 8 → (F i).length ≤ 1000 := fun i hi => by
  have := nd_len 17 (F i) (h.nd i hi) (fun x hx => by have := h.rg i x hi hx; omega)
  omega
theorem PInv.none : PInv (fun _ => []) := ⟨fun _ _ => List.nodup_nil, fun _ _ _ _ _ h => by simp at h, fun _ _ _ h => by simp at h⟩
theorem PInv.put {F : Nat → List Int} (h : PInv F) {t : Int} {v : Nat} (hv : v < 8) (ht : 1 ≤ t ∧ t ≤ 16) (hm : ofI F t = -1) : PInv (updV F v (F v ++ [t])) := by
  have hno : ∀ j, j < 8 → t ∉ F j := by
    rcases ofI_cases F t with ⟨_, h1⟩ | ⟨k, _, h1, _⟩
    · intro j hj hc; have := h1 j hj; simp at this; exact this hc
    · omega
  have hmem : ∀ i y, i < 8 → y ∈ updV F v (F v ++ [t]) i → y ∈ F i ∨ (y = t ∧ i = v) := fun i y hi hy => by
    unfold updV at hy
    split at hy
    · rename_i e; subst e
      rcases List.mem_append.1 hy with h1 | h1
      · exact .inl h1
      · exact .inr ⟨by simpa using h1, rfl⟩
    · exact .inl hy
  refine ⟨fun i hi => ?_, fun i j y hi hj h1 h2 => ?_, fun i y hi hy => ?_⟩
  · unfold updV
    split
    · rw [List.nodup_append]
      refine ⟨h.nd v hv, by simp, fun a ha b hb => ?_⟩
      simp at hb; subst hb
      rintro rfl
      exact hno v hv ha
    · exact h.nd i hi
  · rcases hmem i y hi h1 with a1 | ⟨e1, e2⟩
    · rcases hmem j y hj h2 with a2 | ⟨e3, e4⟩
      · exact h.dj i j y hi hj a1 a2
      · exact absurd (e3 ▸ a1) (hno i hi)
    · rcases hmem j y hj h2 with a2 | ⟨_, e4⟩
      · exact absurd (e1 ▸ a2) (hno j hj)
      · omega
  · rcases hmem i y hi hy with h1 | ⟨rfl, _⟩
    · exact h.rg i y hi h1
    · exact ht
theorem mem_without {xs : List Int} {t y : Int} : y ∈ without xs t ↔ y ∈ xs ∧ y ≠ t := by unfold without; simp [List.mem_filter]
theorem without_self {xs : List Int} {t : Int} (h : t ∉ xs) : without xs t = xs := by
  unfold without
  rw [List.filter_eq_self]
  intro y hy
  simp
  rintro rfl
  exact h hy
theorem PInv.go {F : Nat → List Int} (h : PInv F) {t : Int} {k : Nat} (hk : k < 8) (hm : t ∈ F k) : ∀ i, i < 8 → goTo F t 8 i = updV F k (without (F k) t) i := fun i hi => by
  unfold goTo updV
  rw [if_pos hi]
  by_cases e : i = k
  · subst e; rw [if_pos rfl]
  · rw [if_neg e]
    exact without_self (fun hc => e (h.dj i k t hi hk hc hm))
theorem PInv.out {F : Nat → List Int} (h : PInv F) (t : Int) {k : Nat} (hk : k < 8) : PInv (updV F k (without (F k) t)) := by
  have hmem : ∀ i y, y ∈ updV F k (without (F k) t) i → y ∈ F i := fun i y hy => by
    unfold updV at hy
    split at hy
    · rename_i e; subst e; exact (mem_without.1 hy).1
    · exact hy
  refine ⟨fun i hi => ?_, fun i j y hi hj h1 h2 => h.dj i j y hi hj (hmem i y h1) (hmem j y h2), fun i y hi hy => h.rg i y hi (hmem i y hy)⟩
  unfold updV
  split
  · exact (h.nd k hk).filter _
  · exact h.nd i hi
theorem PInv.turnF {F : Nat → List Int} (h : PInv F) {x : Int} {xs : List Int} {v : Nat} (hv : v < 8) (he : F v = x :: xs) : ∀ i, i < 8 → updV (goTo F x 8) v (goTo F x 8 v ++ [x]) i = updV F v (xs ++ [x]) i := fun i hi => by
  have hnd := h.nd v hv
  rw [he] at hnd
  have hx : x ∉ xs := (List.nodup_cons.1 hnd).1
  have e1 : goTo F x 8 v = xs := by
    unfold goTo; rw [if_pos hv, he]
    show without (x :: xs) x = xs
    have : without (x :: xs) x = without xs x := by unfold without; simp
    rw [this, without_self hx]
  unfold updV
  by_cases e : i = v
  · rw [if_pos e, if_pos e, e1]
  · rw [if_neg e, if_neg e]
    unfold goTo; rw [if_pos hi]
    exact without_self (fun hc => e (h.dj i v x hi hv hc (by rw [he]; simp)))
theorem PInv.turn {F : Nat → List Int} (h : PInv F) {x : Int} {xs : List Int} {v : Nat} (hv : v < 8) (he : F v = x :: xs) : PInv (updV F v (xs ++ [x])) := by
  have hnd := h.nd v hv
  rw [he] at hnd
  obtain ⟨hx, hn⟩ := List.nodup_cons.1 hnd
  have hmem : ∀ i y, y ∈ updV F v (xs ++ [x]) i → y ∈ F i := fun i y hy => by
    unfold updV at hy
    split at hy
    · rename_i e; subst e; rw [he]
      rcases List.mem_append.1 hy with h1 | h1
      · exact List.mem_cons_of_mem _ h1
      · simp at h1; subst h1; simp
    · exact hy
  refine ⟨fun i hi => ?_, fun i j y hi hj h1 h2 => h.dj i j y hi hj (hmem i y h1) (hmem j y h2), fun i y hi hy => h.rg i y hi (hmem i y hy)⟩
  unfold updV
  split
  · rw [List.nodup_append]
    refine ⟨hn, by simp, fun a ha b hb => ?_⟩
    simp at hb; subst hb
    rintro rfl
    exact hx ha
  · exact h.nd i hi
theorem PInv.congr {F F' : Nat → List Int} (h : PInv F) (e : ∀ i, i < 8 → F i = F' i) : PInv F' :=
  ⟨fun i hi => e i hi ▸ h.nd i hi, fun i j t hi hj h1 h2 => h.dj i j t hi hj (by rw [e i hi]; exact h1) (by rw [e j hj]; exact h2), fun i t hi h1 => h.rg i t hi (by rw [e i hi]; exact h1)⟩
/-- The Prio at g and the law's own at q. -/
structure Bo (w wr : World) (g q : Nat) (vs us : Nat → Value) (F G : Nat → List Int) : Prop where
  pp : PSt wr w.heap.size g vs F
  qq : QSt wr w.heap.size q us G
  dis : ∀ k, ArrF g 8 vs k → ¬ ArrF q 8 us k
  low : Below w.heap.size w wr
namespace Bo
variable {w wr w' : World} {g q : Nat} {vs us : Nat → Value} {F G F' G' : Nat → List Int}
theorem grow (h : Bo w wr g q vs us F G) (hb : Below wr.heap.size wr w') : Bo w w' g q vs us F G :=
  ⟨Arr.grow h.pp hb, Arr.grow h.qq hb, h.dis, h.low.trans (hb.mono h.low.size)⟩
theorem drewN (h : Bo w wr g q vs us F G) (n : Nat) : Bo w (wr.drewN n) g q vs us F G := h.grow (sl_below_drewN (Below.refl _ _) n)
theorem pgo (h : Bo w wr g q vs us F G) (hg : PGo wr w.heap.size g vs F' w') : ∃ vs', Bo w w' g q vs' us F' G := by
  obtain ⟨vs', a1, a2, a3⟩ := hg
  refine ⟨vs', a1, Arr.keep h.qq a2 (fun k hk hk' => h.dis k hk' hk), fun k hk hk' => ?_, h.low.trans (a2.below h.low.size (fun k hk => (Arr.lt h.pp k hk).1))⟩
  rcases a3 k hk with h1 | h1
  · exact h.dis k h1 hk'
  · have := (Arr.lt h.qq k hk').2; omega
theorem qgo (h : Bo w wr g q vs us F G) (hg : QGo wr w.heap.size q us G' w') : ∃ us', Bo w w' g q vs us' F G' := by
  obtain ⟨us', a1, a2, a3⟩ := hg
  refine ⟨us', Arr.keep h.pp a2 (fun k hk hk' => h.dis k hk hk'), a1, fun k hk hk' => ?_, h.low.trans (a2.below h.low.size (fun k hk => (Arr.lt h.qq k hk).1))⟩
  rcases a3 k hk' with h1 | h1
  · exact h.dis k hk h1
  · have := (Arr.lt h.pp k hk).2; omega
theorem qcongr (h : Bo w wr g q vs us F G) (e : ∀ i, i < 8 → G i = G' i) : Bo w wr g q vs us F G' := ⟨h.pp, Arr.congr h.qq e, h.dis, h.low⟩
end Bo
theorem bo_start {w wr : World} (hb : Below w.heap.size w wr) : Bo w ((wr.alloc (.cells (arrC [.int .u32 0] 8 (fun _ => .slice none 0 0) []) 123)).alloc (.cells (arrC [] 8 (fun _ => .slice none 0 0) []) 47)) wr.heap.size (wr.heap.size + 1) (fun _ => .slice none 0 0) (fun _ => .slice none 0 0) (fun _ => []) (fun _ => []) := by
  refine ⟨Arr.alloc (pst_new wr w.heap.size hb.size) _, ?_, fun k hk hk' => ?_, (hb.alloc hb.size _).alloc (by have := hb.size; simp; omega) _⟩
  · have e : (wr.alloc (.cells (arrC [.int .u32 0] 8 (fun _ => .slice none 0 0) []) 123)).heap.size = wr.heap.size + 1 := by simp
    rw [← e]
    exact ⟨Blk.new _ _ _, fun i _ => Row.nil _ _ _ _, fun i _ => by simp [Value.ownBlock], fun i j k _ _ _ => by simp [Value.ownBlock], by have := hb.size; simp; omega⟩
  · rcases hk with rfl | ⟨i, _, hk⟩
    · rcases hk' with hk' | ⟨i, _, hk'⟩
      · omega
      · simp [Value.ownBlock] at hk'
    · simp [Value.ownBlock] at hk
theorem mask_three : maskF (updV (fun _ => []) 3 ([] ++ [1])) = 8 := by decide +kernel
end Go.Proofs.Ytenhcpobncmedaa
