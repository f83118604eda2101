/- What can be come to over edges: the plain law. -/
import Derived.Test.YtmfalafolpfhiaaProg
namespace Go.Proofs.Ytmfalafolpfhiaa
set_option maxHeartbeats 400000
set_option linter.unusedVariables false
set_option linter.unusedSimpArgs false
/-- C holds the beginnings and whatever is behind an edge of C. -/
def Clo (es : List (Int × Int)) (fs : List Int) (C : Int → Prop) : Prop := (∀ n ∈ fs, C n) ∧ ∀ e ∈ es, C e.1 → C e.2
/-- What is come to. -/
def Rch (es : List (Int × Int)) (fs : List Int) (n : Int) : Prop := ∀ C, Clo es fs C → C n
section
variable {es : List (Int × Int)} {fs : List Int}
theorem Rch.clo : Clo es fs (Rch es fs) := ⟨fun n hn C hC => hC.1 n hn, fun e he h C hC => hC.2 e he (h C hC)⟩
def OkN (n : Int) : Prop := 0 ≤ n ∧ n ≤ 63
theorem Rch.ok (h1 : ∀ n ∈ fs, OkN n) (h2 : ∀ e ∈ es, OkN e.1 ∧ OkN e.2) {n : Int} (h : Rch es fs n) : OkN n := h OkN ⟨h1, fun e he _ => (h2 e he).2⟩
/-- The set that an array of 64 marks says. -/
def Mk64 (f : Nat → Bool) (n : Int) : Prop := ∃ k : Nat, k < 64 ∧ f k = true ∧ n = (k : Int)
def setB (f : Nat → Bool) (o : Nat) : Nat → Bool := fun k => if k = o then true else f k
theorem Mk64.set {f : Nat → Bool} {o : Nat} (ho : o < 64) (n : Int) : Mk64 (setB f o) n ↔ Mk64 f n ∨ n = (o : Int) := by
  constructor
  · rintro ⟨k, hk, hf, rfl⟩
    unfold setB at hf
    split at hf
    · rename_i h; subst h; exact .inr rfl
    · exact .inl ⟨k, hk, hf, rfl⟩
  · rintro (⟨k, hk, hf, rfl⟩ | rfl)
    · exact ⟨k, hk, by unfold setB; split <;> simp [hf], rfl⟩
    · exact ⟨o, ho, by simp [setB], rfl⟩
/-- The ends of the edges that begin at n, of the first k edges. -/
def behind (es : List (Int × Int)) (n : Int) (k : Nat) : List Int := ((es.take k).filter (fun e => decide (e.1 = n))).map (·.2)
theorem behind_zero (es : List (Int × Int)) (n : Int) : behind es n 0 = [] := rfl
theorem behind_succ (es : List (Int × Int)) (n : Int) (k : Nat) (h : k < es.length) : behind es n (k + 1) = behind es n k ++ (if (es.getD k (0, 0)).1 = n then [(es.getD k (0, 0)).2] else []) := by
  unfold behind
  rw [List.take_succ_eq_append_getElem h, List.filter_append, List.map_append]
  have e : es.getD k (0, 0) = es[k] := by simp [List.getD, List.getElem?_eq_getElem h]
  rw [e]
  by_cases hn : es[k].1 = n <;> simp [hn]
theorem behind_len (es : List (Int × Int)) (n : Int) (k : Nat) : (behind es n k).length ≤ es.length := by
  unfold behind
  rw [List.length_map]
  refine Nat.le_trans (List.length_filter_le _ _) ?_
  rw [List.length_take]; omega
theorem behind_mem {n : Int} {k : Nat} (hk : k = es.length) {m : Int} : m ∈ behind es n k ↔ (n, m) ∈ es := by
  subst hk
  unfold behind
  rw [List.take_length]
  simp only [List.mem_map, List.mem_filter, decide_eq_true_eq]
  constructor
  · rintro ⟨⟨a, b⟩, ⟨h1, rfl⟩, rfl⟩; exact h1
  · intro h; exact ⟨(n, m), ⟨h, rfl⟩, rfl⟩
/-- Under way: what is met, what is still to be looked at. -/
structure Way (es : List (Int × Int)) (fs : List Int) (f : Nat → Bool) (W : List Int) : Prop where
  from_ : ∀ n ∈ fs, Mk64 f n ∨ n ∈ W
  edge : ∀ e ∈ es, Mk64 f e.1 → Mk64 f e.2 ∨ e.2 ∈ W
  low1 : ∀ n, Mk64 f n → Rch es fs n
  low2 : ∀ n ∈ W, Rch es fs n
theorem Way.start : Way es fs (fun _ => false) fs := by
  refine ⟨fun n hn => .inr hn, fun e he h => ?_, fun n h => ?_, fun n hn => Rch.clo.1 n hn⟩
  · obtain ⟨k, _, hf, _⟩ := h; cases hf
  · obtain ⟨k, _, hf, _⟩ := h; cases hf
theorem Way.skip {f : Nat → Bool} {W : List Int} {n : Int} (h : Way es fs f (W ++ [n])) (hm : Mk64 f n) : Way es fs f W := by
  refine ⟨fun a ha => ?_, fun e he h1 => ?_, h.low1, fun a ha => h.low2 a (List.mem_append_left _ ha)⟩
  · rcases h.from_ a ha with h2 | h2
    · exact .inl h2
    · rcases List.mem_append.1 h2 with h2 | h2
      · exact .inr h2
      · simp at h2; subst h2; exact .inl hm
  · rcases h.edge e he h1 with h2 | h2
    · exact .inl h2
    · rcases List.mem_append.1 h2 with h2 | h2
      · exact .inr h2
      · simp at h2; rw [h2]; exact .inl hm
theorem Way.take {f : Nat → Bool} {W : List Int} {o : Nat} (h : Way es fs f (W ++ [(o : Int)])) (ho : o < 64) : Way es fs (setB f o) (W ++ behind es o es.length) := by
  have hr : Rch es fs (o : Int) := h.low2 _ (by simp)
  refine ⟨fun a ha => ?_, fun e he h1 => ?_, fun n hn => ?_, fun a ha => ?_⟩
  · rcases h.from_ a ha with h2 | h2
    · exact .inl ((Mk64.set ho a).2 (.inl h2))
    · rcases List.mem_append.1 h2 with h2 | h2
      · exact .inr (List.mem_append_left _ h2)
      · simp at h2; exact .inl ((Mk64.set ho a).2 (.inr h2))
  · rcases (Mk64.set ho e.1).1 h1 with h2 | h2
    · rcases h.edge e he h2 with h3 | h3
      · exact .inl ((Mk64.set ho _).2 (.inl h3))
      · rcases List.mem_append.1 h3 with h3 | h3
        · exact .inr (List.mem_append_left _ h3)
        · simp at h3; exact .inl ((Mk64.set ho _).2 (.inr h3))
    · refine .inr (List.mem_append_right _ ((behind_mem rfl).2 ?_))
      rw [← h2]; exact he
  · rcases (Mk64.set ho n).1 hn with h2 | h2
    · exact h.low1 n h2
    · rw [h2]; exact hr
  · rcases List.mem_append.1 ha with h2 | h2
    · exact h.low2 a (List.mem_append_left _ h2)
    · exact Rch.clo.2 _ ((behind_mem rfl).1 h2) hr
theorem Way.done {f : Nat → Bool} (h : Way es fs f []) (n : Int) : Mk64 f n ↔ Rch es fs n := by
  refine ⟨h.low1 n, fun hn => hn (Mk64 f) ⟨fun a ha => ?_, fun e he h1 => ?_⟩⟩
  · rcases h.from_ a ha with h2 | h2
    · exact h2
    · cases h2
  · rcases h.edge e he h1 with h2 | h2
    · exact h2
    · cases h2
/-- How many are not met. -/
def unmet (f : Nat → Bool) : Nat := ((List.range 64).filter (fun k => !f k)).length
theorem unmet_le (f : Nat → Bool) : unmet f ≤ 64 := by
  unfold unmet
  have := List.length_filter_le (fun k => !f k) (List.range 64)
  simp at this ⊢
  exact this
theorem unmet_set {f : Nat → Bool} {o : Nat} (ho : o < 64) (hf : f o = false) : unmet (setB f o) + 1 = unmet f := by
  have key : ∀ l : List Nat, l.Nodup → o ∈ l → (l.filter (fun k => !setB f o k)).length + 1 = (l.filter (fun k => !f k)).length := by
    intro l
    induction l with
    | nil => intro _ h; cases h
    | cons a l ih =>
      intro hn hm
      rw [List.nodup_cons] at hn
      by_cases ha : a = o
      · subst ha
        have h1 : (setB f a a) = true := by simp [setB]
        rw [List.filter_cons_of_neg (by simp [h1]), List.filter_cons_of_pos (by simp [hf])]
        have : l.filter (fun k => !setB f a k) = l.filter (fun k => !f k) := by
          apply List.filter_congr
          intro x hx
          have : x ≠ a := fun e => hn.1 (e ▸ hx)
          simp [setB, this]
        rw [this]; simp
      · have hm' : o ∈ l := by
          rcases List.mem_cons.1 hm with h | h
          · exact absurd h.symm ha
          · exact h
        have h1 : setB f o a = f a := by simp [setB, ha]
        have := ih hn.2 hm'
        cases hfa : f a with
        | true => rw [List.filter_cons_of_neg (by simp [h1, hfa]), List.filter_cons_of_neg (by simp [hfa])]; exact this
        | false => rw [List.filter_cons_of_pos (by simp [h1, hfa]), List.filter_cons_of_pos (by simp [hfa])]; simp only [List.length_cons]; omega
  exact key _ List.nodup_range (by simpa using ho)
/-- The marked ones below k, rising. -/
def outL (f : Nat → Bool) (k : Nat) : List Int := ((List.range k).filter f).map (fun (o : Nat) => (o : Int))
theorem outL_succ (f : Nat → Bool) (k : Nat) : outL f (k + 1) = outL f k ++ (if f k = true then [(k : Int)] else []) := by
  unfold outL
  rw [List.range_succ, List.filter_append, List.map_append]
  cases h : f k <;> simp [h]
theorem outL_len (f : Nat → Bool) (k : Nat) : (outL f k).length ≤ k := by
  unfold outL
  rw [List.length_map]
  have := List.length_filter_le f (List.range k)
  simpa using this
theorem outL_mem (f : Nat → Bool) (n : Int) : n ∈ outL f 64 ↔ Mk64 f n := by
  unfold outL Mk64
  simp only [List.mem_map, List.mem_filter, List.mem_range]
  constructor
  · rintro ⟨k, ⟨h1, h2⟩, rfl⟩; exact ⟨k, h1, h2, rfl⟩
  · rintro ⟨k, h1, h2, rfl⟩; exact ⟨k, ⟨h1, h2⟩, rfl⟩
theorem outL_sorted (f : Nat → Bool) (k : Nat) : (outL f k).Pairwise (fun a b => a < b) :=
  List.Pairwise.map _ (fun a b h => by omega) (List.Pairwise.filter f List.pairwise_lt_range)
theorem outL_ext {f g : Nat → Bool} (h : ∀ n, Mk64 f n ↔ Mk64 g n) : outL f 64 = outL g 64 := by
  unfold outL
  congr 1
  apply List.filter_congr
  intro k hk
  have hk : k < 64 := by simpa using hk
  have h1 := h (k : Int)
  have e0 : ∀ f' : Nat → Bool, Mk64 f' (k : Int) ↔ f' k = true := fun f' => by
    constructor
    · rintro ⟨j, _, hf, e⟩
      have : k = j := by omega
      rw [this]; exact hf
    · intro hf; exact ⟨k, hk, hf, rfl⟩
  rw [e0, e0] at h1
  exact Bool.eq_iff_iff.2 h1
/-- Keys in any order, sorted. -/
theorem sorted_keys {ks : List Int} (hnd : ks.Nodup) {f : Nat → Bool} (hm : ∀ n, n ∈ ks ↔ Mk64 f n) : (ks.mergeSort fun x y => decide (x ≤ y)) = outL f 64 := by
  have tr : ∀ a b c : Int, decide (a ≤ b) = true → decide (b ≤ c) = true → decide (a ≤ c) = true := fun a b c h1 h2 => by simp only [decide_eq_true_eq] at *; omega
  have to : ∀ a b : Int, (decide (a ≤ b) || decide (b ≤ a)) = true := fun a b => by simp only [Bool.or_eq_true, decide_eq_true_eq]; omega
  have hs := outL_sorted f 64
  have hn2 : (outL f 64).Nodup := hs.imp (fun h => by omega)
  refine List.Perm.eq_of_pairwise (le := fun a b => decide (a ≤ b) = true) (fun a b _ _ h1 h2 => ?_) (List.pairwise_mergeSort tr to ks) (hs.imp (fun h => by simp only [decide_eq_true_eq]; omega)) ((List.mergeSort_perm ks _).trans ((List.perm_ext_iff_of_nodup hnd hn2).2 (fun n => (hm n).trans (outL_mem f n).symm)))
  simp only [decide_eq_true_eq] at h1 h2
  omega
/-- In the reference: what is met so far lies among what is come to, and the beginnings are met. -/
structure Met (es : List (Int × Int)) (fs : List Int) (f : Nat → Bool) : Prop where
  from_ : ∀ n ∈ fs, Mk64 f n
  low : ∀ n, Mk64 f n → Rch es fs n
theorem Met.add {f : Nat → Bool} {e : Int × Int} {o : Nat} (h : Met es fs f) (he : e ∈ es) (h1 : Mk64 f e.1) (h2 : e.2 = (o : Int)) (ho : o < 64) : Met es fs (setB f o) := by
  refine ⟨fun n hn => (Mk64.set ho n).2 (.inl (h.from_ n hn)), fun n hn => ?_⟩
  rcases (Mk64.set ho n).1 hn with h3 | h3
  · exact h.low n h3
  · rw [h3, ← h2]; exact Rch.clo.2 e he (h.low _ h1)
theorem Met.done {f : Nat → Bool} (h : Met es fs f) (hc : ∀ e ∈ es, Mk64 f e.1 → Mk64 f e.2) (n : Int) : Mk64 f n ↔ Rch es fs n :=
  ⟨h.low n, fun hn => hn (Mk64 f) ⟨h.from_, hc⟩⟩
end
end Go.Proofs.Ytmfalafolpfhiaa
