/- The law of a heap with keys of type ByteArray: what is held between two plays. -/
import Derived.Test.YtenhcpobncmedaaHpLS
import Derived.Test.YtenhcpobncmedaaWaF
namespace Go.Proofs.Ytenhcpobncmedaa.HS
open Go.RowKit
set_option maxHeartbeats 400000
set_option linter.unusedVariables false
set_option linter.unusedSimpArgs false
/-- The heap, and the law's own list. -/
structure HM (w wr : World) (g b : Nat) (vi vk vl : Value) (ps l : List (Int × ByteArray)) (f : Int → Option Int) (cnt : Nat) : Prop where
  ok : Ok wr w.heap.size g b vi vk ps f cnt
  row : Row wr w.heap.size 143 2 vl l.length (l.flatMap pc)
  low : Below w.heap.size w wr
namespace HM
variable {w wr w' : World} {g b : Nat} {vi vk vl : Value} {ps l qs : List (Int × ByteArray)} {f : Int → Option Int} {cnt cnt' : Nat}
theorem grow (h : HM w wr g b vi vk vl ps l f cnt) (hb : Below wr.heap.size wr w') : HM w w' g b vi vk vl ps l f cnt := ⟨h.ok.grow hb, h.row.grow hb, h.low.trans (hb.mono h.low.size)⟩
theorem drewN (h : HM w wr g b vi vk vl ps l f cnt) (m : Nat) : HM w (wr.drewN m) g b vi vk vl ps l f cnt := ⟨h.ok.drewN m, h.row, sl_below_drewN h.low m⟩
/-- The list's block is none of the heap's. -/
theorem ne (h : HM w wr g b vi vk vl ps l f cnt) : ∀ k, F g b vi vk k → vl.ownBlock ≠ some k := fun k hk => by
  rcases hk with rfl | rfl | hk | hk
  · exact wa_row_blk h.row h.ok.st.blk (by decide)
  · exact h.ok.st.map.row_ne h.row
  · exact fun e => wa_row_row h.ok.st.ri h.row (by decide) k hk e
  · exact fun e => wa_row_row h.ok.st.rk h.row (by decide) k hk e
/-- The heap goes on. -/
theorem go (h : HM w wr g b vi vk vl ps l f cnt) (hg : GoOk wr w.heap.size g b vi vk qs cnt' w') : ∃ vi' vk' ps' f', HM w w' g b vi' vk' vl ps' l f' cnt' ∧ ps'.Perm qs := by
  obtain ⟨vi', vk', ps', f', a1, a2, a3, a4⟩ := hg
  exact ⟨vi', vk', ps', f', ⟨a1, h.row.fr a3 (fun k hk hk' => h.ne k hk' hk), h.low.trans (a3.below h.low.size (fun k hk => (h.ok.st.lt k hk).1))⟩, a2⟩
/-- The list goes on. -/
theorem list {l' : List (Int × ByteArray)} {vl' : Value} {S : Nat → Prop} (h : HM w wr g b vi vk vl ps l f cnt) (hf : Fr S wr w') (hS : ∀ k, S k → vl.ownBlock = some k) (hr : Row w' w.heap.size 143 2 vl' l'.length (l'.flatMap pc)) : HM w w' g b vi vk vl' ps l' f cnt :=
  ⟨h.ok.keep hf (fun k hk hs => h.ne k hk (hS k hs)), hr, h.low.trans (hf.below h.low.size (fun k hk => (h.row.lt k (hS k hk)).1))⟩
theorem rs (h : HM w wr g b vi vk vl ps l f cnt) : ∃ A c, vl = .slice A l.length c ∧ RS pc 2 wr wr.heap.size A l.length l ∧ l.length ≤ c ∧ c ≤ maxLen := by
  obtain ⟨A, c, hv, h1, h2⟩ := h.row.shape
  have hr := h.row
  rw [hv] at hr
  exact ⟨A, c, hv, ⟨hr.reads, rfl⟩, h1, h2⟩
theorem app (h : HM w wr g b vi vk vl ps l f cnt) {X : Obj} {v9 : Value} {id : Int} {k : ByteArray} {w1 : World} {n : Nat} (hn : l.length = n) (hr : Row w1 w.heap.size 143 2 v9 (n + 1) (l.flatMap pc ++ [.int .i64 id, .string k])) (hg : (wr.alloc X).grownBy w1 vl.ownBlock) : HM w w1 g b vi vk v9 ps (l ++ [(id, k)]) f cnt := by
  refine h.list (S := fun k => vl.ownBlock = some k) (((Fr.refl _ wr).alloc X).grown hg (fun k e _ => e)) (fun k hk => hk) ?_
  rw [List.length_append, List.flatMap_append, hn]; exact hr
end HM
theorem cons_erase {α : Type} : ∀ (l : List α) (i : Nat) (h : i < l.length), (l[i] :: l.eraseIdx i).Perm l
  | [], i, h => by simp at h
  | a :: l, 0, h => List.Perm.refl _
  | a :: l, i + 1, h => by
    have ih := cons_erase l i (by simpa using h)
    exact (List.Perm.swap _ _ _).trans (List.Perm.cons a ih)
theorem set_cons {α : Type} {l : List α} {i : Nat} (hi : i < l.length) (x : α) : (l.set i x).Perm (x :: l.eraseIdx i) := by
  have h1 := cons_erase (l.set i x) i (by simpa using hi)
  rw [List.getElem_set_self, List.eraseIdx_set_eq] at h1
  exact h1.symm
theorem erase_cons {l : List (Int × ByteArray)} {i : Nat} (hi : i < l.length) : l.Perm (l.getD i zp :: l.eraseIdx i) := by
  rw [getD_of hi]
  exact (cons_erase l i hi).symm
/-- The plain part: the same pairs, no number twice. -/
structure HP (ps l : List (Int × ByteArray)) : Prop where
  perm : ps.Perm l
  nd : ∀ p q, p ∈ l → q ∈ l → p.1 = q.1 → p = q
namespace HP
variable {ps l : List (Int × ByteArray)} {f : Int → Option Int}
theorem len (h : HP ps l) : ps.length = l.length := h.perm.length_eq
theorem nd_of (hp : Pos zp ps f) (hl : ps.Perm l) : ∀ p q, p ∈ l → q ∈ l → p.1 = q.1 → p = q := fun p q h1 h2 e => by
  obtain ⟨i, hi, rfl⟩ := List.mem_iff_getElem.1 (hl.mem_iff.2 h1)
  obtain ⟨j, hj, rfl⟩ := List.mem_iff_getElem.1 (hl.mem_iff.2 h2)
  have : i = j := hp.inj hi hj (by rw [getD_of hi, getD_of hj]; exact e)
  subst this; rfl
theorem of_pos (hp : Pos zp ps f) (hl : ps.Perm l) : HP ps l := ⟨hl, nd_of hp hl⟩
end HP
/-- Where a number stands in the law's list, and in the heap. -/
theorem there {ps l : List (Int × ByteArray)} {f : Int → Option Int} (hp : Pos zp ps f) (hl : ps.Perm l) {id : Int} {i : Nat} (hi : idxI (ids l) id = i) : i < l.length ∧ (l.getD i zp).1 = id ∧ ∃ j, j < ps.length ∧ f id = some (j : Int) ∧ ps.getD j zp = l.getD i zp := by
  unfold idxI at hi
  cases hq : (ids l).findIdx? (· == id) with
  | none => rw [hq] at hi; simp at hi
  | some k =>
    rw [hq] at hi
    have hki : k = i := by simp at hi; omega
    subst hki
    obtain ⟨hk, h1, _⟩ := List.findIdx?_eq_some_iff_getElem.1 hq
    have hk' : k < l.length := by rw [← ids_len]; exact hk
    have e1 : (l.getD k zp).1 = id := by
      rw [← ids_getD]
      simpa [List.getD, List.getElem?_eq_getElem hk] using h1
    refine ⟨hk', e1, ?_⟩
    have hm : l.getD k zp ∈ ps := hl.mem_iff.2 (by rw [getD_of hk']; exact List.getElem_mem hk')
    obtain ⟨j, hj, e2⟩ := List.mem_iff_getElem.1 hm
    refine ⟨j, hj, ?_, by rw [getD_of hj, e2]⟩
    have := hp.at_ j hj
    rw [getD_of hj, e2, e1] at this
    exact this
theorem not_there {ps l : List (Int × ByteArray)} {f : Int → Option Int} (hp : Pos zp ps f) (hl : ps.Perm l) {id : Int} (hi : idxI (ids l) id = -1) : f id = none := by
  rw [hp.none_iff]
  intro p hpm e
  have hm : id ∈ ids l := List.mem_map.2 ⟨p, hl.mem_iff.1 hpm, e⟩
  have := idxI_nonneg (ids l) id
  rw [hi] at this
  simp at this
  exact this hm
theorem idx_cases (l : List (Int × ByteArray)) (id : Int) : idxI (ids l) id = -1 ∨ ∃ i : Nat, idxI (ids l) id = i := by
  unfold idxI
  cases (ids l).findIdx? (· == id) with
  | none => exact .inl rfl
  | some k => exact .inr ⟨k, rfl⟩
/-- Who comes first in the list stands at the top. -/
theorem first_top {ps l : List (Int × ByteArray)} (hh : Heap (bef klt) ps.length (pf ps)) (hl : ps.Perm l) {m : Nat} (hm : m < l.length) (hmin : ∀ j, j < l.length → bef klt (l.getD j zp) (l.getD m zp) = false) : l.getD m zp = ps.getD 0 zp := by
  have hn : 0 < ps.length := by rw [hl.length_eq]; omega
  have h1 : l.getD m zp ∈ ps := hl.mem_iff.2 (by rw [getD_of hm]; exact List.getElem_mem hm)
  obtain ⟨j, hj, e1⟩ := List.mem_iff_getElem.1 h1
  have h2 := hh.top (bef_ord sord) j hj
  have h3 : ps.getD 0 zp ∈ l := hl.mem_iff.1 (by rw [getD_of hn]; exact List.getElem_mem hn)
  obtain ⟨k, hk, e2⟩ := List.mem_iff_getElem.1 h3
  have h4 := hmin k hk
  rw [getD_of hk, e2] at h4
  unfold pf at h2
  rw [getD_of hj, e1] at h2
  exact (bef_ord sord).tot _ _ h2 h4
/-- The list with one key turned. -/
theorem set_flat : ∀ (l : List (Int × ByteArray)) (i : Nat) (k : ByteArray), i < l.length → (l.flatMap pc).set (i * 2 + 1) (.string k) = (l.set i ((l.getD i zp).1, k)).flatMap pc
  | [], i, k, h => by simp at h
  | p :: l, 0, k, h => by simp [pc]
  | p :: l, i + 1, k, h => by
    have ih := set_flat l i k (by simpa using h)
    have e : (i + 1) * 2 + 1 = (i * 2 + 1) + 1 + 1 := by omega
    simp only [List.flatMap_cons, pc, List.cons_append, List.nil_append, List.set_cons_succ, e, List.getD_cons_succ]
    exact congrArg _ (congrArg _ ih)
end Go.Proofs.Ytenhcpobncmedaa.HS
