/- The plain law: edges sorted and compacted are the edges rising. -/
import Derived.Test.YtmfalafolpfhiaaToG
import Derived.Lib.SlicesCompact
namespace Go.Proofs.Ytmfalafolpfhiaa
set_option maxHeartbeats 400000
def LtE (x y : Int × Int) : Prop := x.1 < y.1 ∨ (x.1 = y.1 ∧ x.2 < y.2)
theorem getBE {zs : List (Int × Int)} {j : Nat} (hj : j < zs.length) : zs.toArray[j]! = zs[j] := by
  simp [hj]
theorem compactE_mem (zs : List (Int × Int)) (x : Int × Int) : x ∈ Lib.compact zs ↔ x ∈ zs := by
  unfold Lib.compact Lib.compactUpTo
  simp only [List.mem_map, List.mem_filter, List.mem_range]
  constructor
  · rintro ⟨j, ⟨hj, _⟩, rfl⟩
    rw [getBE hj]
    exact List.getElem_mem hj
  · intro hx
    obtain ⟨j, hj, rfl⟩ := List.getElem_of_mem hx
    have key : ∀ j (hj : j < zs.length), ∃ i, (i < zs.length ∧ Lib.keeps zs.toArray i = true) ∧ zs.toArray[i]! = zs[j] := by
      intro j
      induction j with
      | zero => intro hj; exact ⟨0, ⟨hj, by simp [Lib.keeps]⟩, by simp [hj]⟩
      | succ j ih =>
        intro hj
        by_cases hk : Lib.keeps zs.toArray (j + 1) = true
        · exact ⟨j + 1, ⟨hj, hk⟩, by simp [hj]⟩
        · obtain ⟨i, h1, h2⟩ := ih (by omega)
          refine ⟨i, h1, h2.trans ?_⟩
          unfold Lib.keeps at hk
          simp only [Nat.succ_ne_zero, false_or, decide_eq_true_eq, Nat.add_sub_cancel, Classical.not_not] at hk
          rw [getBE hj, getBE (show j < zs.length by omega)] at hk
          exact hk.symm
    exact key j hj
theorem leE_iff (x y : Int × Int) : leE x y = true ↔ (x.1 < y.1 ∨ (x.1 = y.1 ∧ x.2 ≤ y.2)) := by unfold leE; exact decide_eq_true_iff
theorem compactE_lt {zs : List (Int × Int)} (hs : zs.Pairwise (fun a b => leE a b = true)) : (Lib.compact zs).Pairwise LtE := by
  unfold Lib.compact Lib.compactUpTo
  rw [List.pairwise_map]
  have hp : ((List.range zs.length).filter (Lib.keeps zs.toArray)).Pairwise (fun a b => a < b) := List.Pairwise.filter _ List.pairwise_lt_range
  refine hp.imp_of_mem ?_
  intro i j hi hj hij
  obtain ⟨hj1, hj2⟩ := List.mem_filter.1 hj
  have hjn : j < zs.length := List.mem_range.1 hj1
  have hk : zs[j] ≠ zs[j - 1] := by
    unfold Lib.keeps at hj2
    have := of_decide_eq_true hj2
    rcases this with h | h
    · omega
    · rw [getBE hjn, getBE (show j - 1 < zs.length by omega)] at h
      exact h
  rw [getBE hjn, getBE (show i < zs.length by omega)]
  rw [List.pairwise_iff_getElem] at hs
  have h1 := (leE_iff _ _).1 (hs (j - 1) j (by omega) hjn (by omega))
  have h2 : zs[i] = zs[j - 1] ∨ leE zs[i] zs[j - 1] = true := by
    by_cases e : i = j - 1
    · left; congr
    · right; exact hs i (j - 1) (by omega) (by omega) (by omega)
  have hne : ¬ (zs[j].1 = zs[j - 1].1 ∧ zs[j].2 = zs[j - 1].2) := fun h => hk (Prod.ext h.1 h.2)
  unfold LtE
  rcases h2 with h2 | h2
  · rw [h2]; omega
  · have h2 := (leE_iff _ _).1 h2
    omega
theorem lexRow_mem (P : Int × Int → Bool) (h m : Nat) (e : Int × Int) : e ∈ lexRow P h m ↔ ∃ t : Nat, t < m ∧ P ((h : Int), (t : Int)) = true ∧ e = ((h : Int), (t : Int)) := by
  unfold lexRow
  simp only [List.mem_map, List.mem_filter, List.mem_range]
  constructor
  · rintro ⟨t, ⟨h1, h2⟩, rfl⟩; exact ⟨t, h1, h2, rfl⟩
  · rintro ⟨t, h1, h2, rfl⟩; exact ⟨t, ⟨h1, h2⟩, rfl⟩
theorem lexTo_mem (P : Int × Int → Bool) (k : Nat) (e : Int × Int) : e ∈ lexTo P k ↔ ∃ h : Nat, h < k ∧ e ∈ lexRow P h 64 := by
  unfold lexTo
  simp only [List.mem_flatMap, List.mem_range]
theorem lexTo_lt (P : Int × Int → Bool) (k : Nat) : (lexTo P k).Pairwise LtE := by
  unfold lexTo
  rw [List.pairwise_flatMap]
  refine ⟨fun h _ => ?_, List.pairwise_lt_range.imp ?_⟩
  · unfold lexRow
    rw [List.pairwise_map]
    refine List.Pairwise.imp ?_ (List.Pairwise.filter _ List.pairwise_lt_range)
    intro a b hab
    right
    exact ⟨rfl, by show (a : Int) < b; omega⟩
  · intro a b hab x hx y hy
    obtain ⟨t, _, _, rfl⟩ := (lexRow_mem _ _ _ _).1 hx
    obtain ⟨u, _, _, rfl⟩ := (lexRow_mem _ _ _ _).1 hy
    left
    show (a : Int) < b; omega
theorem LtE.ne {x y : Int × Int} (h : LtE x y) : x ≠ y := by
  rintro rfl
  unfold LtE at h
  omega
theorem LtE.asymm {x y : Int × Int} (h : LtE x y) (h2 : LtE y x) : x = y := by
  unfold LtE at h h2
  omega
theorem sorted_lex {es : List (Int × Int)} (hok : ∀ e ∈ es, OkE e) : Lib.compact (es.mergeSort leE) = lexTo (fun e => decide (e ∈ es)) 64 := by
  have tr : ∀ a b c : Int × Int, leE a b = true → leE b c = true → leE a c = true := fun a b c h1 h2 => by rw [leE_iff] at *; omega
  have to : ∀ a b : Int × Int, (leE a b || leE b a) = true := fun a b => by rw [Bool.or_eq_true, leE_iff, leE_iff]; omega
  have h1 := compactE_lt (List.pairwise_mergeSort tr to es)
  have h2 := lexTo_lt (fun e => decide (e ∈ es)) 64
  have n1 : (Lib.compact (es.mergeSort leE)).Nodup := h1.imp (fun h => h.ne)
  have n2 : (lexTo (fun e => decide (e ∈ es)) 64).Nodup := h2.imp (fun h => h.ne)
  have hm : ∀ e, e ∈ Lib.compact (es.mergeSort leE) ↔ e ∈ lexTo (fun e => decide (e ∈ es)) 64 := fun e => by
    rw [compactE_mem, List.mem_mergeSort, lexTo_mem]
    constructor
    · intro he
      obtain ⟨⟨a1, a2⟩, b1, b2⟩ := hok e he
      refine ⟨e.1.toNat, by omega, (lexRow_mem _ _ _ _).2 ⟨e.2.toNat, by omega, ?_, ?_⟩⟩
      · have : (((e.1.toNat : Nat) : Int), ((e.2.toNat : Nat) : Int)) = e := Prod.ext (by show ((e.1.toNat : Nat) : Int) = e.1; omega) (by show ((e.2.toNat : Nat) : Int) = e.2; omega)
        rw [this]; simpa using he
      · exact Prod.ext (by show e.1 = ((e.1.toNat : Nat) : Int); omega) (by show e.2 = ((e.2.toNat : Nat) : Int); omega)
    · rintro ⟨h, _, hr⟩
      obtain ⟨t, _, hp, rfl⟩ := (lexRow_mem _ _ _ _).1 hr
      simpa using hp
  exact List.Perm.eq_of_pairwise (le := LtE) (fun a b _ _ x y => x.asymm y) h1 h2 ((List.perm_ext_iff_of_nodup n1 n2).2 hm)
end Go.Proofs.Ytmfalafolpfhiaa
