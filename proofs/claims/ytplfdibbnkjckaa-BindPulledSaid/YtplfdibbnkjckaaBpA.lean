/- Plain law of places: scanning with maps, and gathering name by name, come to the same. -/
import Derived.Test.YtplfdibbnkjckaaObB
namespace Go.Proofs.Ytplfdibbnkjckaa
set_option linter.unusedVariables false
set_option linter.unusedSimpArgs false
/-- An entry: a name of a part, with its address. -/
structure En where
  s : ByteArray
  part : Int
  ad : Int
  wk : Bool
def En.key (n : En) : List UInt8 := n.s.data.toList
def strongs (all : List En) (k : List UInt8) : List En := all.filter fun y => y.key == k && !y.wk
def bestOf (all : List En) (x : En) : En := (strongs all x.key).getLast?.getD x
def uniqGo : List (List UInt8) → List En → List En
  | _, [] => []
  | met, x :: xs => if met.contains x.key = true then uniqGo met xs else x :: uniqGo (met ++ [x.key]) xs
def uniq (l : List En) : List En := uniqGo [] l
def dup (all : List En) : Bool := all.any fun y => decide (1 < (strongs all y.key).length)
def outOf (pre : List En) : List En := (uniq pre).map (bestOf pre)
def keysOf (l : List En) : List (List UInt8) := l.map En.key
theorem uniqGo_snoc (x : En) : ∀ (pre : List En) (met : List (List UInt8)), uniqGo met (pre ++ [x]) = if met.contains x.key = true ∨ (keysOf pre).contains x.key = true then uniqGo met pre else uniqGo met pre ++ [x]
  | [], met => by
    simp only [List.nil_append, uniqGo, keysOf, List.map_nil]
    by_cases h : met.contains x.key = true <;> simp [h]
  | y :: pre, met => by
    simp only [List.cons_append, uniqGo]
    by_cases h : met.contains y.key = true
    · rw [if_pos h, if_pos h, uniqGo_snoc x pre met]
      by_cases hx : x.key = y.key
      · rw [if_pos (.inl (hx ▸ h)), if_pos (.inl (hx ▸ h))]
      · have e : (keysOf (y :: pre)).contains x.key = (keysOf pre).contains x.key := by
          simp [keysOf, hx]
        rw [e]
    · rw [if_neg h, if_neg h, uniqGo_snoc x pre (met ++ [y.key])]
      have e : ((met ++ [y.key]).contains x.key = true ∨ (keysOf pre).contains x.key = true) ↔ (met.contains x.key = true ∨ (keysOf (y :: pre)).contains x.key = true) := by
        simp [keysOf, or_assoc]
      by_cases hc : met.contains x.key = true ∨ (keysOf (y :: pre)).contains x.key = true
      · rw [if_pos hc, if_pos (e.2 hc)]
      · rw [if_neg hc, if_neg (fun h' => hc (e.1 h'))]; rfl
theorem uniq_snoc (x : En) (pre : List En) : uniq (pre ++ [x]) = if (keysOf pre).contains x.key = true then uniq pre else uniq pre ++ [x] := by
  unfold uniq
  rw [uniqGo_snoc]
  simp
theorem uniq_sub : ∀ (l : List En) (met : List (List UInt8)) (y : En), y ∈ uniqGo met l → y ∈ l ∧ met.contains y.key = false
  | [], met, y, h => by simp [uniqGo] at h
  | x :: xs, met, y, h => by
    simp only [uniqGo] at h
    split at h
    · obtain ⟨h1, h2⟩ := uniq_sub xs met y h
      exact ⟨List.mem_cons_of_mem _ h1, h2⟩
    · rename_i hm
      rcases List.mem_cons.1 h with rfl | h
      · exact ⟨List.mem_cons_self, by simpa using hm⟩
      · obtain ⟨h1, h2⟩ := uniq_sub xs _ y h
        refine ⟨List.mem_cons_of_mem _ h1, ?_⟩
        simp at h2 ⊢
        exact h2.1
theorem uniq_keys : ∀ (l : List En) (met : List (List UInt8)), (keysOf (uniqGo met l)).Nodup
  | [], met => by simp [uniqGo, keysOf]
  | x :: xs, met => by
    simp only [uniqGo]
    split
    · exact uniq_keys xs met
    · simp only [keysOf, List.map_cons, List.nodup_cons]
      refine ⟨fun h => ?_, uniq_keys xs _⟩
      obtain ⟨y, hy, he⟩ := List.mem_map.1 h
      have := (uniq_sub xs _ y hy).2
      simp at this
      exact this.2 he
theorem strongs_snoc (pre : List En) (x : En) (k : List UInt8) : strongs (pre ++ [x]) k = strongs pre k ++ (if x.key == k && !x.wk then [x] else []) := by
  simp only [strongs, List.filter_append, List.filter_cons, List.filter_nil]
theorem strongs_other {pre : List En} {x : En} {k : List UInt8} (h : x.key ≠ k ∨ x.wk = true) : strongs (pre ++ [x]) k = strongs pre k := by
  rw [strongs_snoc]
  have : (x.key == k && !x.wk) = false := by
    rcases h with h | h
    · simp [h]
    · simp [h]
  rw [this]; simp
theorem strongs_same {pre : List En} {x : En} (h : x.wk = false) : strongs (pre ++ [x]) x.key = strongs pre x.key ++ [x] := by
  rw [strongs_snoc]; simp [h]
/-- The first place of a key in the list of names met. -/
def placeOf (pre : List En) (k : List UInt8) : Option Nat := (keysOf (uniq pre)).idxOf? k
def isStrong (pre : List En) (k : List UInt8) : Bool := !(strongs pre k).isEmpty
theorem snocRec {α : Type} {p : List α → Prop} (h0 : p []) (hs : ∀ l x, p l → p (l ++ [x])) : ∀ l, p l := by
  intro l
  rw [← l.reverse_reverse]
  induction l.reverse with
  | nil => exact h0
  | cons x xs ih => rw [List.reverse_cons]; exact hs _ _ ih
theorem uniq_has (pre : List En) (k : List UInt8) : (keysOf (uniq pre)).contains k = (keysOf pre).contains k := by
  refine snocRec (p := fun pre => (keysOf (uniq pre)).contains k = (keysOf pre).contains k) rfl (fun pre x ih => ?_) pre
  rw [uniq_snoc]
  have e : keysOf (pre ++ [x]) = keysOf pre ++ [x.key] := by simp [keysOf]
  rw [e]
  split
  · rename_i h
    rw [ih]
    by_cases hk : k = x.key
    · subst hk; rw [h]; simp
    · simp [hk]
  · have e2 : keysOf (uniq pre ++ [x]) = keysOf (uniq pre) ++ [x.key] := by simp [keysOf]
    rw [e2]
    rw [Bool.eq_iff_iff] at ih ⊢
    simp at ih ⊢
    rw [ih]
theorem place_none {pre : List En} {k : List UInt8} (h : (keysOf pre).contains k = false) : placeOf pre k = none := by
  unfold placeOf
  rw [List.idxOf?_eq_none_iff]
  have := uniq_has pre k
  rw [h] at this
  simpa using this
theorem place_some {pre : List En} {k : List UInt8} (h : (keysOf pre).contains k = true) : ∃ i, placeOf pre k = some i ∧ i < (uniq pre).length ∧ ((uniq pre)[i]?.map En.key) = some k := by
  unfold placeOf
  have := uniq_has pre k
  rw [h] at this
  cases hq : (keysOf (uniq pre)).idxOf? k with
  | none => rw [List.idxOf?_eq_none_iff] at hq; simp at this; exact absurd this hq
  | some i =>
    have h2 := hq
    rw [List.idxOf?, List.findIdx?_eq_some_iff_getElem] at h2
    obtain ⟨hi, h1, _⟩ := h2
    have hl : i < (uniq pre).length := by simpa [keysOf] using hi
    refine ⟨i, rfl, hl, ?_⟩
    simp [keysOf] at h1
    simp [List.getElem?_eq_getElem hl, h1]
theorem place_new {pre : List En} {x : En} (h : (keysOf pre).contains x.key = false) (k : List UInt8) : placeOf (pre ++ [x]) k = if k = x.key then some (uniq pre).length else placeOf pre k := by
  unfold placeOf
  rw [uniq_snoc, if_neg (by rw [h]; simp)]
  have e2 : keysOf (uniq pre ++ [x]) = keysOf (uniq pre) ++ [x.key] := by simp [keysOf]
  rw [e2, List.idxOf?, List.findIdx?_append]
  have := uniq_has pre x.key
  rw [h] at this
  by_cases hk : k = x.key
  · subst hk
    rw [if_pos rfl]
    have : (keysOf (uniq pre)).findIdx? (· == x.key) = none := by
      rw [List.findIdx?_eq_none_iff]
      intro y hy
      simp at this ⊢
      rintro rfl
      exact this hy
    rw [this]
    simp [keysOf]
  · rw [if_neg hk]
    have hn : List.findIdx? (· == k) [x.key] = none := by
      rw [List.findIdx?_eq_none_iff]
      intro y hy
      simp at hy ⊢
      rintro rfl
      exact hk hy
    rw [hn]
    simp [List.idxOf?]
theorem place_old {pre : List En} {x : En} (h : (keysOf pre).contains x.key = true) (k : List UInt8) : placeOf (pre ++ [x]) k = placeOf pre k := by
  unfold placeOf
  rw [uniq_snoc, if_pos h]
theorem best_other {pre : List En} {x y : En} (h : x.key ≠ y.key ∨ x.wk = true) : bestOf (pre ++ [x]) y = bestOf pre y := by
  unfold bestOf; rw [strongs_other h]
theorem best_same {pre : List En} {x y : En} (h : x.key = y.key) (hw : x.wk = false) : bestOf (pre ++ [x]) y = x := by
  unfold bestOf; rw [← h, strongs_same hw]; simp
theorem strongs_none {pre : List En} {k : List UInt8} (h : (keysOf pre).contains k = false) : strongs pre k = [] := by
  unfold strongs
  rw [List.filter_eq_nil_iff]
  intro y hy
  simp [keysOf] at h
  have := h y hy
  simp [this]
theorem out_new {pre : List En} {x : En} (h : (keysOf pre).contains x.key = false) : outOf (pre ++ [x]) = outOf pre ++ [x] := by
  unfold outOf
  rw [uniq_snoc, if_neg (by rw [h]; simp), List.map_append]
  congr 1
  · refine List.map_congr_left fun y hy => best_other (.inl fun e => ?_)
    have h1 := (uniq_sub pre [] y hy).1
    simp [keysOf] at h
    exact h y h1 e.symm
  · simp only [List.map_cons, List.map_nil, List.cons.injEq, and_true]
    cases hw : x.wk with
    | true => rw [best_other (.inr hw)]; unfold bestOf; rw [strongs_none h]; rfl
    | false => exact best_same rfl hw
theorem out_weak {pre : List En} {x : En} (h : (keysOf pre).contains x.key = true) (hw : x.wk = true) : outOf (pre ++ [x]) = outOf pre := by
  unfold outOf
  rw [uniq_snoc, if_pos h]
  exact List.map_congr_left fun y _ => best_other (.inr hw)
theorem out_set {pre : List En} {x : En} {i : Nat} (h : (keysOf pre).contains x.key = true) (hw : x.wk = false) (hi : placeOf pre x.key = some i) : outOf (pre ++ [x]) = (outOf pre).set i x := by
  unfold outOf
  rw [uniq_snoc, if_pos h]
  obtain ⟨i', h1, h2, h3⟩ := place_some h
  rw [hi] at h1
  injection h1 with h1
  subst h1
  have hnd := uniq_keys pre []
  refine List.ext_getElem (by simp) fun j hj1 hj2 => ?_
  simp only [List.length_map] at hj1
  rw [List.getElem_set]
  have hxi : (uniq pre)[i].key = x.key := by rw [List.getElem?_eq_getElem h2] at h3; simpa using h3
  by_cases hij : i = j
  · subst hij
    rw [if_pos rfl, List.getElem_map]
    exact best_same hxi.symm hw
  · rw [if_neg hij, List.getElem_map, List.getElem_map]
    refine best_other (.inl fun e => hij ?_)
    have hp := List.pairwise_iff_getElem.1 hnd
    have l1 : i < (keysOf (uniqGo [] pre)).length := by unfold uniq at h2; simpa [keysOf] using h2
    have l2 : j < (keysOf (uniqGo [] pre)).length := by unfold uniq at hj1; simpa [keysOf] using hj1
    have a1 : (keysOf (uniqGo [] pre))[i] = x.key := by simp only [keysOf, List.getElem_map]; exact hxi
    have a2 : (keysOf (uniqGo [] pre))[j] = x.key := by simp only [keysOf, List.getElem_map]; exact e.symm
    rcases Nat.lt_or_ge i j with hlt | hge
    · exact absurd (a1.trans a2.symm) (hp i j l1 l2 hlt)
    · exact absurd (a2.trans a1.symm) (hp j i l2 l1 (by omega))
theorem out_len (pre : List En) : (outOf pre).length = (uniq pre).length := by simp [outOf]
theorem strong_len {pre : List En} {k : List UInt8} : isStrong pre k = true ↔ 0 < (strongs pre k).length := by
  unfold isStrong
  cases strongs pre k <;> simp
theorem strong_snoc (pre : List En) (x : En) (k : List UInt8) : isStrong (pre ++ [x]) k = if k = x.key then (isStrong pre k || !x.wk) else isStrong pre k := by
  unfold isStrong
  by_cases hk : k = x.key
  · subst hk
    rw [if_pos rfl]
    cases hw : x.wk with
    | true => rw [strongs_other (.inr hw)]; simp
    | false => rw [strongs_same hw]; simp
  · rw [if_neg hk, strongs_other (.inl (fun e => hk e.symm))]
theorem dup_iff (l : List En) : dup l = true ↔ ∃ k, 1 < (strongs l k).length := by
  unfold dup
  rw [List.any_eq_true]
  constructor
  · rintro ⟨y, _, h⟩; exact ⟨y.key, by simpa using h⟩
  · rintro ⟨k, h⟩
    cases hs : strongs l k with
    | nil => rw [hs] at h; simp at h
    | cons y ys =>
      have hy : y ∈ strongs l k := by rw [hs]; simp
      unfold strongs at hy
      rw [List.mem_filter] at hy
      obtain ⟨h1, h2⟩ := hy
      simp at h2
      exact ⟨y, h1, by rw [h2.1]; simpa using h⟩
theorem strongs_app (l r : List En) (k : List UInt8) : strongs (l ++ r) k = strongs l k ++ strongs r k := by simp [strongs]
theorem dup_app {l r : List En} (h : dup l = true) : dup (l ++ r) = true := by
  obtain ⟨k, hk⟩ := (dup_iff l).1 h
  exact (dup_iff _).2 ⟨k, by rw [strongs_app, List.length_append]; omega⟩
theorem dup_hit {pre : List En} {x : En} (hw : x.wk = false) (h : isStrong pre x.key = true) : dup (pre ++ [x]) = true := by
  refine (dup_iff _).2 ⟨x.key, ?_⟩
  rw [strongs_same hw, List.length_append]
  have := strong_len.1 h
  simp; omega
theorem dup_not {pre : List En} {x : En} (hd : dup pre = false) (h : x.wk = true ∨ isStrong pre x.key = false) : dup (pre ++ [x]) = false := by
  rw [Bool.eq_false_iff]
  intro hc
  obtain ⟨k, hk⟩ := (dup_iff _).1 hc
  have hp : ¬ 1 < (strongs pre k).length := fun h' => by rw [(dup_iff _).2 ⟨k, h'⟩] at hd; cases hd
  rcases h with h | h
  · rw [strongs_other (.inr h)] at hk; exact hp hk
  · by_cases he : x.key = k
    · subst he
      have h0 : ¬ 0 < (strongs pre x.key).length := fun h' => by rw [strong_len.2 h'] at h; cases h
      rw [strongs_snoc, List.length_append] at hk
      split at hk <;> simp at hk <;> omega
    · rw [strongs_other (.inl he)] at hk; exact hp hk
theorem dup_nil : dup [] = false := rfl
end Go.Proofs.Ytplfdibbnkjckaa
