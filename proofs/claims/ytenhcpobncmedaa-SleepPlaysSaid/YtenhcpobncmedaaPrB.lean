/- An array of rows of ints inside a block: what is held, and one row put anew. -/
import Derived.Test.YtenhcpobncmedaaSlA
namespace Go.Proofs.Ytenhcpobncmedaa
open Go.RowKit
set_option maxHeartbeats 400000
set_option linter.unusedVariables false
set_option linter.unusedSimpArgs false
def updV {α : Type} (f : Nat → α) (i : Nat) (x : α) : Nat → α := fun j => if j = i then x else f j
theorem updV_same {α : Type} (f : Nat → α) (i : Nat) (x : α) : updV f i x i = x := by simp [updV]
theorem updV_other {α : Type} (f : Nat → α) {i j : Nat} (h : j ≠ i) (x : α) : updV f i x j = f j := by simp [updV, h]
/-- The block's cells: what stands ahead, the rows, what stands behind. -/
def arrC (hd : List Value) (N : Nat) (vs : Nat → Value) (tl : List Value) : Array Value := (hd ++ (List.range N).map vs ++ tl).toArray
theorem arrC_at (hd : List Value) {N i : Nat} (vs : Nat → Value) (tl : List Value) (h : i < N) : (arrC hd N vs tl)[hd.length + i]? = some (vs i) := by
  unfold arrC
  rw [List.getElem?_toArray, List.append_assoc, List.getElem?_append_right (by omega), List.getElem?_append_left (by simp; omega)]
  simp [h]
theorem arrC_hd (hd : List Value) {N i : Nat} (vs : Nat → Value) (tl : List Value) (h : i < hd.length) : (arrC hd N vs tl)[i]? = hd[i]? := by
  unfold arrC
  rw [List.getElem?_toArray, List.append_assoc, List.getElem?_append_left h]
theorem arrC_tl (hd : List Value) {N i : Nat} (vs : Nat → Value) (tl : List Value) : (arrC hd N vs tl)[hd.length + N + i]? = tl[i]? := by
  unfold arrC
  rw [List.getElem?_toArray, List.getElem?_append_right (by simp)]
  simp
theorem arrC_set (hd : List Value) {N i : Nat} (vs : Nat → Value) (tl : List Value) (h : i < N) (u : Value) : (arrC hd N vs tl).setIfInBounds (hd.length + i) u = arrC hd N (updV vs i u) tl := by
  unfold arrC
  apply Array.ext'
  simp only [Array.toList_setIfInBounds]
  rw [List.append_assoc, List.set_append_right _ _ (by omega), Nat.add_sub_cancel_left, List.set_append_left _ _ (by simp; omega), ← List.append_assoc]
  congr 2
  apply List.ext_getElem?
  intro j
  rw [List.getElem?_set]
  by_cases hj : i = j
  · subst hj; simp [h, updV]
  · rw [if_neg hj]
    by_cases hjn : j < N
    · simp [hjn, updV, Ne.symm hj]
    · simp [hjn]
theorem arrC_set_hd (hd : List Value) {N i : Nat} (vs : Nat → Value) (tl : List Value) (h : i < hd.length) (u : Value) : (arrC hd N vs tl).setIfInBounds i u = arrC (hd.set i u) N vs tl := by
  unfold arrC
  apply Array.ext'
  simp only [Array.toList_setIfInBounds]
  rw [List.append_assoc, List.set_append_left _ _ h, ← List.append_assoc]
/-- N rows of ints in block g, behind hd, ahead of tl. -/
structure Arr (w : World) (B g : Nat) (t : TypeId) (hd : List Value) (N : Nat) (tl : List Value) (vs : Nat → Value) (F : Nat → List Int) : Prop where
  blk : Blk w g (arrC hd N vs tl) t
  row : ∀ i, i < N → Row w B 3 1 (vs i) (F i).length ((F i).map (Value.int .i64))
  ne : ∀ i, i < N → (vs i).ownBlock ≠ some g
  dis : ∀ i j k, i < N → j < N → i ≠ j → (vs i).ownBlock = some k → (vs j).ownBlock ≠ some k
  low : B ≤ g
def ArrF (g N : Nat) (vs : Nat → Value) (k : Nat) : Prop := k = g ∨ ∃ i, i < N ∧ (vs i).ownBlock = some k
namespace Arr
variable {w w' w1 : World} {B g N : Nat} {t : TypeId} {hd tl : List Value} {vs : Nat → Value} {F : Nat → List Int}
theorem cell (h : Arr w B g t hd N tl vs F) {i : Nat} (hi : i < N) : w.cell? ⟨g, hd.length + i, none⟩ = some (vs i) := (h.blk.cell _).trans (arrC_at hd vs tl hi)
theorem keep {S : Nat → Prop} (h : Arr w B g t hd N tl vs F) (hf : Fr S w w') (hn : ∀ k, ArrF g N vs k → ¬ S k) : Arr w' B g t hd N tl vs F :=
  ⟨h.blk.fr hf (hn g (.inl rfl)), fun i hi => (h.row i hi).fr hf (fun k hk => hn k (.inr ⟨i, hi, hk⟩)), h.ne, h.dis, h.low⟩
theorem grow (h : Arr w B g t hd N tl vs F) (hb : Below w.heap.size w w') : Arr w' B g t hd N tl vs F := h.keep (Fr.of_grow hb) (fun _ _ h => h)
theorem alloc (h : Arr w B g t hd N tl vs F) (o : Obj) : Arr (w.alloc o) B g t hd N tl vs F := h.keep ((Fr.refl Nil w).alloc o) (fun _ _ h => h)
theorem lt (h : Arr w B g t hd N tl vs F) : ∀ k, ArrF g N vs k → B ≤ k ∧ k < w.heap.size := fun k hk => by
  rcases hk with rfl | ⟨i, hi, hk⟩
  · exact ⟨h.low, h.blk.lt⟩
  · exact (h.row i hi).lt k hk
theorem congr {F' : Nat → List Int} (h : Arr w B g t hd N tl vs F) (e : ∀ i, i < N → F i = F' i) : Arr w B g t hd N tl vs F' :=
  ⟨h.blk, fun i hi => by rw [← e i hi]; exact h.row i hi, h.ne, h.dis, h.low⟩
/-- Row i is another one now. -/
theorem put (h : Arr w B g t hd N tl vs F) {i : Nat} (hi : i < N) {v : Value} {xs : List Int} (hf : Fr (fun k => (vs i).ownBlock = some k) w w1) (hr : Row w1 B 3 1 v xs.length (xs.map (Value.int .i64)))
    (ho : ∀ k, v.ownBlock = some k → (vs i).ownBlock = some k ∨ w.heap.size ≤ k) : Arr (w1.setCell ⟨g, hd.length + i, none⟩ v) B g t hd N tl (updV vs i v) (updV F i xs) := by
  have hgl := h.blk.lt
  have hvg : v.ownBlock ≠ some g := fun e => by
    rcases ho g e with h1 | h1
    · exact h.ne i hi h1
    · omega
  have hnew : ∀ j k, j < N → j ≠ i → (vs j).ownBlock = some k → v.ownBlock ≠ some k := fun j k hj hji hk hv => by
    rcases ho k hv with h1 | h1
    · exact h.dis i j k hi hj (Ne.symm hji) h1 hk
    · have := ((h.row j hj).lt k hk).2; omega
  refine ⟨?_, fun j hj => ?_, fun j hj => ?_, fun j j' k hj hj' hne hk => ?_, h.low⟩
  · have := (h.blk.fr hf (h.ne i hi)).set (hd.length + i) v
    rwa [arrC_set hd vs tl hi] at this
  · by_cases hji : j = i
    · subst hji
      rw [updV_same, updV_same]
      exact hr.setCell (p := ⟨g, hd.length + j, none⟩) hvg v
    · rw [updV_other _ hji, updV_other _ hji]
      exact ((h.row j hj).fr hf (fun k hk hk' => h.dis j i k hj hi hji hk hk')).setCell (p := ⟨g, hd.length + i, none⟩) (h.ne j hj) v
  · by_cases hji : j = i
    · subst hji; rw [updV_same]; exact hvg
    · rw [updV_other _ hji]; exact h.ne j hj
  · by_cases h1 : j = i
    · subst h1
      rw [updV_same] at hk
      rw [updV_other _ (Ne.symm hne)]
      exact fun hk' => hnew j' k hj' (Ne.symm hne) hk' hk
    · rw [updV_other _ h1] at hk
      by_cases h2 : j' = i
      · subst h2; rw [updV_same]; exact hnew j k hj h1 hk
      · rw [updV_other _ h2]; exact h.dis j j' k hj hj' hne hk
theorem put_fr (h : Arr w B g t hd N tl vs F) {i : Nat} (hi : i < N) {v : Value} (hf : Fr (fun k => (vs i).ownBlock = some k) w w1) : Fr (ArrF g N vs) w (w1.setCell ⟨g, hd.length + i, none⟩ v) :=
  (hf.mono (fun k _ hk => .inr ⟨i, hi, hk⟩)).setCell (p := ⟨g, hd.length + i, none⟩) (fun _ => .inl rfl) v
theorem put_own (h : Arr w B g t hd N tl vs F) {i : Nat} (hi : i < N) {v : Value} (ho : ∀ k, v.ownBlock = some k → (vs i).ownBlock = some k ∨ w.heap.size ≤ k) : ∀ k, ArrF g N (updV vs i v) k → ArrF g N vs k ∨ w.heap.size ≤ k := fun k hk => by
  rcases hk with h1 | ⟨j, hj, h1⟩
  · exact .inl (.inl h1)
  · by_cases hji : j = i
    · subst hji
      rw [updV_same] at h1
      rcases ho k h1 with h2 | h2
      · exact .inl (.inr ⟨j, hj, h2⟩)
      · exact .inr h2
    · rw [updV_other _ hji] at h1
      exact .inl (.inr ⟨j, hj, h1⟩)
/-- A cell ahead of the rows is another one now. -/
theorem set_hd (h : Arr w B g t hd N tl vs F) {i : Nat} (hi : i < hd.length) (u : Value) : Arr (w.setCell ⟨g, i, none⟩ u) B g t (hd.set i u) N tl vs F := by
  refine ⟨?_, fun j hj => (h.row j hj).setCell (p := ⟨g, i, none⟩) (h.ne j hj) u, h.ne, h.dis, h.low⟩
  have := h.blk.set i u
  rwa [arrC_set_hd hd vs tl hi] at this
end Arr
/-- The block behind an append onto row i. -/
theorem Arr.app {w w1 : World} {B g N i : Nat} {t : TypeId} {hd tl : List Value} {vs : Nat → Value} {F : Nat → List Int} (h : Arr w B g t hd N tl vs F) (hi : i < N) (hf : Fr (fun k => (vs i).ownBlock = some k) w w1) :
    w1.cell? ⟨g, hd.length + i, none⟩ = some (vs i) ∧ (∀ j, w1.frozen? ⟨g, j, none⟩ = false) ∧ g < w1.heap.size ∧ ∀ j, w1.cell? ⟨g, j, none⟩ = (arrC hd N vs tl)[j]? := by
  have hb := h.blk.fr hf (h.ne i hi)
  exact ⟨(hb.cell _).trans (arrC_at hd vs tl hi), hb.free, hb.lt, hb.cell⟩
theorem pr_app_fr {w w1 : World} {X : Obj} {row : Option Nat} (hg : (w.drew.alloc X).grownBy w1 row) : Fr (fun k => row = some k) w w1 :=
  (((Fr.refl _ w).drew).alloc X).grown hg (fun k e _ => e)
/-- Behind a call: the array as it is now; nothing else has changed. -/
def ArrGo (w : World) (B g : Nat) (t : TypeId) (N : Nat) (vs : Nat → Value) (hd tl : List Value) (F : Nat → List Int) (w' : World) : Prop :=
  ∃ vs', Arr w' B g t hd N tl vs' F ∧ Fr (ArrF g N vs) w w' ∧ ∀ k, ArrF g N vs' k → ArrF g N vs k ∨ w.heap.size ≤ k
theorem ArrGo.trans {w w1 w2 : World} {B g N : Nat} {t : TypeId} {vs vs1 : Nat → Value} {hd2 tl2 : List Value} {F2 : Nat → List Int} (h1 : Fr (ArrF g N vs) w w1) (h2 : ∀ k, ArrF g N vs1 k → ArrF g N vs k ∨ w.heap.size ≤ k) (h : ArrGo w1 B g t N vs1 hd2 tl2 F2 w2) : ArrGo w B g t N vs hd2 tl2 F2 w2 := by
  obtain ⟨vs2, a1, a2, a3⟩ := h
  refine ⟨vs2, a1, h1.trans a2 (fun k hk hk' => (h2 k hk').resolve_right (by omega)), fun k hk => ?_⟩
  rcases a3 k hk with h3 | h3
  · exact h2 k h3
  · exact .inr (Nat.le_trans h1.size h3)
theorem ArrGo.put {w w1 : World} {B g N i : Nat} {t : TypeId} {hd tl : List Value} {vs : Nat → Value} {F : Nat → List Int} (h : Arr w B g t hd N tl vs F) (hi : i < N) {v : Value} {xs : List Int} (hf : Fr (fun k => (vs i).ownBlock = some k) w w1) (hr : Row w1 B 3 1 v xs.length (xs.map (Value.int .i64)))
    (ho : ∀ k, v.ownBlock = some k → (vs i).ownBlock = some k ∨ w.heap.size ≤ k) : ArrGo w B g t N vs hd tl (updV F i xs) (w1.setCell ⟨g, hd.length + i, none⟩ v) :=
  ⟨_, h.put hi hf hr ho, h.put_fr hi hf, h.put_own hi ho⟩
end Go.Proofs.Ytenhcpobncmedaa
