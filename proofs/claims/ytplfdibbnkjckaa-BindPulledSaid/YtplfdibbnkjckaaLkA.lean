/- Plain law of what parts lack: names in a text between blanks; each need once. -/
import Derived.Test.YtplfdibbnkjckaaBpB
import Derived.Lib.IndexMore
namespace Go.Proofs.Ytplfdibbnkjckaa
open Go.RowKit
set_option maxHeartbeats 400000
set_option linter.unusedVariables false
set_option linter.unusedSimpArgs false
def Nd.key (d : Nd) : List UInt8 := d.s.data.toList
/-- A name such as may be: not empty, no blank, short. -/
def Good (k : List UInt8) : Prop := k ≠ [] ∧ (32 : UInt8) ∉ k ∧ k.length ≤ 12
/-- Names between blanks. -/
def thereK : List (List UInt8) → List UInt8
  | [] => []
  | k :: ks => 32 :: k ++ 32 :: thereK ks
theorem thereK_app : ∀ (a b : List (List UInt8)), thereK (a ++ b) = thereK a ++ thereK b
  | [], b => rfl
  | k :: a, b => by simp [thereK, thereK_app a b]
theorem thereK_len : ∀ (a : List (List UInt8)), (∀ k ∈ a, k.length ≤ 12) → (thereK a).length ≤ 14 * a.length
  | [], _ => by simp [thereK]
  | k :: a, h => by
    have h1 := thereK_len a (fun x hx => h x (List.mem_cons_of_mem _ hx))
    have h2 := h k List.mem_cons_self
    simp [thereK]; omega
theorem first_word {a b r : List UInt8} (ha : (32 : UInt8) ∉ a) (hb : (32 : UInt8) ∉ b) (h : (a ++ [32]) <+: (b ++ 32 :: r)) : a = b := by
  induction a generalizing b with
  | nil =>
    cases b with
    | nil => rfl
    | cons y b =>
      obtain ⟨t, ht⟩ := h
      simp at ht
      simp [ht.1] at hb
  | cons x a ih =>
    cases b with
    | nil =>
      obtain ⟨t, ht⟩ := h
      simp at ht
      simp [ht.1] at ha
    | cons y b =>
      obtain ⟨t, ht⟩ := h
      simp at ht
      obtain ⟨rfl, ht⟩ := ht
      simp at ha hb
      rw [ih ha.2 hb.2 ⟨t, by simpa using ht⟩]
theorem occ_there : ∀ (ks : List (List UInt8)) (k : List UInt8) (i : Nat), (∀ x ∈ ks, Good x) → Good k → ((32 :: k ++ [32]) <+: (thereK ks).drop i) → k ∈ ks
  | [], k, i, _, _, h => by
    obtain ⟨t, ht⟩ := h
    simp [thereK] at ht
  | x :: ks, k, i, hg, hk, h => by
    have hx := hg x List.mem_cons_self
    rcases Nat.lt_trichotomy i 0 with h0 | h0 | h0
    · omega
    · subst h0
      obtain ⟨t, ht⟩ := h
      simp [thereK] at ht
      have := first_word hk.2.1 hx.2.1 (r := thereK ks) ⟨t, by simpa using ht⟩
      simp [this]
    · obtain ⟨j, rfl⟩ : ∃ j, i = j + 1 := ⟨i - 1, by omega⟩
      have e : (thereK (x :: ks)).drop (j + 1) = (x ++ 32 :: thereK ks).drop j := by simp [thereK]
      rw [e] at h
      rcases Nat.lt_trichotomy j x.length with h1 | h1 | h1
      · exfalso
        rw [List.drop_append_of_le_length (by omega), List.drop_eq_getElem_cons h1] at h
        obtain ⟨t, ht⟩ := h
        rw [List.cons_append, List.cons_append, List.cons_append] at ht
        injection ht with ht _
        exact hx.2.1 (ht ▸ List.getElem_mem h1)
      · exfalso
        subst h1
        simp at h
        obtain ⟨t, ht⟩ := h
        simp at ht
        obtain ⟨a, k', rfl⟩ := List.exists_cons_of_ne_nil hk.1
        have hka := hk.2.1
        simp at hka
        cases ks with
        | nil => simp [thereK] at ht
        | cons y ks => simp [thereK] at ht; exact hka.1 ht.1.symm
      · have e2 : (x ++ 32 :: thereK ks).drop j = (thereK ks).drop (j - x.length - 1) := by
          rw [List.drop_append, List.drop_eq_nil_of_le (by omega), List.nil_append]
          obtain ⟨m, hm⟩ : ∃ m, j - x.length = m + 1 := ⟨j - x.length - 1, by omega⟩
          rw [hm]; simp
        rw [e2] at h
        exact List.mem_cons_of_mem _ (occ_there ks k _ (fun y hy => hg y (List.mem_cons_of_mem _ hy)) hk h)
theorem there_occ {ks : List (List UInt8)} {k : List UInt8} (h : k ∈ ks) : ∃ i, i ≤ (thereK ks).length ∧ ((32 :: k ++ [32]) <+: (thereK ks).drop i) := by
  obtain ⟨a, b, rfl⟩ := List.append_of_mem h
  refine ⟨(thereK a).length, by rw [thereK_app]; simp, ?_⟩
  rw [thereK_app, List.drop_left]
  exact ⟨thereK b, by simp [thereK]⟩
/-- strings.Contains says whether a name is there. -/
theorem contains_there {ks : List (List UInt8)} {k : List UInt8} (hg : ∀ x ∈ ks, Good x) (hk : Good k) : Lib.contains (thereK ks) (32 :: k ++ [32]) = ks.contains k := by
  unfold Lib.contains
  rw [Bool.eq_iff_iff]
  simp only [decide_eq_true_eq, List.contains_iff_mem]
  constructor
  · intro h
    rcases Lib.index_spec (thereK ks) (32 :: k ++ [32]) with ⟨h1, _⟩ | ⟨i, h1, h2, h3, _⟩
    · omega
    · exact occ_there ks k i hg hk (by unfold Lib.occAt at h3; exact List.isPrefixOf_iff_prefix.1 h3)
  · intro h
    obtain ⟨i, h1, h2⟩ := there_occ h
    rcases Lib.index_spec (thereK ks) (32 :: k ++ [32]) with ⟨_, h3⟩ | ⟨j, h3, _⟩
    · have := h3 i h1
      unfold Lib.occAt at this
      rw [List.isPrefixOf_iff_prefix.2 h2] at this
      cases this
    · omega
/-- A name that may be is good. -/
theorem good_of_name {s : ByteArray} (h : nameB (nums s) = true) : Good s.data.toList := by
  unfold nameB at h
  simp only [Bool.and_eq_true, decide_eq_true_eq] at h
  obtain ⟨⟨⟨h1, h2⟩, _⟩, h3⟩ := h
  have hl : (nums s).length = s.data.toList.length := by unfold nums; simp
  refine ⟨fun e => ?_, fun hm => ?_, by omega⟩
  · rw [e] at hl; simp only [List.length_nil] at hl; omega
  · have hc : ∀ (xs : List Nat) (i : Nat), charsB i xs = true → 32 ∉ xs := by
      intro xs
      induction xs with
      | nil => intro i _; simp
      | cons c cs ih =>
        intro i hh
        rw [charsB, Bool.and_eq_true] at hh
        intro hm
        rcases List.mem_cons.1 hm with rfl | hm
        · have := hh.1; simp [chB] at this
        · exact ih _ hh.2 hm
    refine hc _ _ h3 ?_
    unfold nums
    exact List.mem_map.2 ⟨32, hm, rfl⟩
/-- Each name once that is not met yet. -/
def lacksGo (seen : List (List UInt8)) : List ByteArray → List ByteArray
  | [] => []
  | s :: r => if seen.contains s.data.toList = true then lacksGo seen r else s :: lacksGo (seen ++ [s.data.toList]) r
def keysB (l : List ByteArray) : List (List UInt8) := l.map fun s => s.data.toList
theorem lacksGo_snoc (s : ByteArray) : ∀ (l : List ByteArray) (seen : List (List UInt8)), lacksGo seen (l ++ [s]) = if (seen ++ keysB (lacksGo seen l)).contains s.data.toList = true then lacksGo seen l else lacksGo seen l ++ [s]
  | [], seen => by simp [lacksGo, keysB]
  | x :: l, seen => by
    simp only [List.cons_append, lacksGo]
    by_cases h : seen.contains x.data.toList = true
    · simp only [h, if_true]; exact lacksGo_snoc s l seen
    · have hb : seen.contains x.data.toList = false := by simpa using h
      simp only [hb, Bool.false_eq_true, if_false]
      rw [lacksGo_snoc s l (seen ++ [x.data.toList])]
      simp only [keysB, List.map_cons, List.append_assoc, List.cons_append, List.nil_append]
      split <;> rfl
end Go.Proofs.Ytplfdibbnkjckaa
