/- Contract of refs.Early. -/
import Derived.Test.YtjdbclcafjlohaaReC
import Derived.Test.YtjdbclcafjlohaaSetF
namespace Go.Proofs.Ytjdbclcafjlohaa
open Go.RowKit
set_option maxHeartbeats 400000
set_option linter.unusedVariables false
set_option linter.unusedSimpArgs false
def row17 (f : Nat → Value) : Array Value := ((List.range 17).map f).toArray
theorem row17_at (f : Nat → Value) (o : Nat) (h : o < 17) : (row17 f)[o]? = some (f o) := by simp [row17, h]
theorem row17_set (f g : Nat → Value) (o : Nat) (h : o < 17) (hg : ∀ j, j ≠ o → g j = f j) : (row17 f).setIfInBounds o (g o) = row17 g := by
  unfold row17
  apply Array.ext
  · simp
  · intro i h1 h2
    simp at h1 h2
    by_cases hi : i = o
    · subst hi; simp
    · simp [Array.getElem_setIfInBounds, Ne.symm hi, hg i hi]
/-- The sets, each in a block of its own. -/
structure Sets (rs : List Rc) (k base : Nat) (M : Nat → Option Nat) (wr : World) : Prop where
  some_ : ∀ o b, o < 64 → M o = some b → base ≤ b ∧ ∃ n S, n ≤ 17 ∧ IntSet Try.prog wr 3 4 b n S ∧ ∀ x, S x = true ↔ SetIs rs k o x
  none_ : ∀ o, o < 64 → M o = none → ∀ x, ¬ SetIs rs k o x
  inj : ∀ o o' b, o < 64 → o' < 64 → M o = some b → M o' = some b → o = o'
theorem Sets.fr {rs : List Rc} {k base : Nat} {M : Nat → Option Nat} {wr w' : World} (h : Sets rs k base M wr) {F : Nat → Prop} (hf : Fr F wr w') (hn : ∀ b, base ≤ b → ¬ F b) : Sets rs k base M w' :=
  ⟨fun o b ho hb => by
    obtain ⟨h1, n, S, h2, h3, h4⟩ := h.some_ o b ho hb
    exact ⟨h1, n, S, h2, h3.fr hf (hn b h1), h4⟩, h.none_, h.inj⟩
/-- The record turned none of the sets. -/
theorem Sets.same {rs : List Rc} {k base : Nat} {M : Nat → Option Nat} {wr : World} (h : Sets rs k base M wr) (hs : ∀ (o : Nat), o < 64 → ∀ x, SetIs rs (k + 1) o x ↔ SetIs rs k o x) : Sets rs (k + 1) base M wr :=
  ⟨fun o b ho hb => by
    obtain ⟨h1, n, S, h2, h3, h4⟩ := h.some_ o b ho hb
    exact ⟨h1, n, S, h2, h3, fun x => (h4 x).trans (hs o ho x).symm⟩, fun o ho hm x hx => h.none_ o ho hm x ((hs o ho x).1 hx), h.inj⟩
structure ErRel (w : World) (g : Nat) (rs : List Rc) (k : Nat) (M : Nat → Option Nat) (wr : World) : Prop where
  deep : Blk wr g (row17 fun t => .int .i64 (dp (rs.take k) t)) 66
  arr : Blk wr (g + 1) (rowOf fun o => .map (M o)) 68
  sets : Sets rs k (g + 2) M wr
  low : Below w.heap.size w wr
  hg : w.heap.size ≤ g
theorem ErRel.alloc {w : World} {g : Nat} {rs : List Rc} {k : Nat} {M : Nat → Option Nat} {wr : World} (h : ErRel w g rs k M wr) (X : Obj) : ErRel w g rs k M (wr.alloc X) :=
  ⟨h.deep.alloc X, h.arr.alloc X, h.sets.fr ((Fr.refl Nil wr).alloc X) (fun _ _ h => h), h.low.alloc h.low.size X, h.hg⟩
theorem ErRel.start {w w1 : World} (rs : List Rc) (hb : Below w.heap.size w w1) : ErRel w w1.heap.size rs 0 (fun _ => none) ((w1.alloc (.cells (row17 fun _ => .int .i64 0) 66)).alloc (.cells (rowOf fun _ => .map none) 68)) := by
  refine ⟨(Blk.new w1 (row17 fun _ => .int .i64 0) 66).alloc _, ?_, ⟨fun o b _ h => (by cases h), fun o _ _ x => SetIs.first, fun o o' b _ _ h => (by cases h)⟩, (hb.alloc hb.size _).alloc (by have := hb.size; simp; omega) _, hb.size⟩
  have := Blk.new (w1.alloc (.cells (row17 fun _ => .int .i64 0) 66)) (rowOf fun _ => .map none) 68
  simpa using this
/-- A record that turns neither the sets nor how often anybody reads. -/
theorem ErRel.pass {w : World} {g : Nat} {rs : List Rc} {k : Nat} {M : Nat → Option Nat} {wr : World} (h : ErRel w g rs k M wr) (hk : k < rs.length) (h3 : (rs.getD k .zero).k ≠ 3) (h4 : (rs.getD k .zero).k ≠ 4) (h8 : (rs.getD k .zero).k ≠ 8) : ErRel w g rs (k + 1) M wr := by
  refine ⟨?_, h.arr, h.sets.same fun o ho x => SetIs.keep hk (fun hl => h8 hl.1) (.inr h4), h.low, h.hg⟩
  have e : (fun t : Nat => Value.int .i64 (dp (rs.take (k + 1)) t)) = fun t : Nat => Value.int .i64 (dp (rs.take k) t) := by
    funext t; rw [dp_same hk (.inr ⟨h3, h4⟩)]
  rw [e]; exact h.deep
/-- An Enter. -/
theorem ErRel.enter {w : World} {g : Nat} {rs : List Rc} {k : Nat} {M : Nat → Option Nat} {wr : World} (h : ErRel w g rs k M wr) (hk : k < rs.length) (h3 : (rs.getD k .zero).k = 3) {t : Nat} (ht : (rs.getD k .zero).t = t) (h17 : t < 17) :
    ErRel w g rs (k + 1) M (wr.setCell ⟨g, t, none⟩ (.int .i64 (dp (rs.take k) t + 1))) := by
  have hfr : Fr (fun b => b = g) wr (wr.setCell ⟨g, t, none⟩ (.int .i64 (dp (rs.take k) t + 1))) := (Fr.refl (fun b => b = g) wr).setCell (p := ⟨g, t, none⟩) (fun _ => rfl) _
  refine ⟨?_, h.arr.fr hfr (by omega), (h.sets.fr hfr (fun b hb e => by omega)).same fun o ho x => SetIs.keep hk (fun hl => by have := hl.1; omega) (.inr (by omega)), h.low.trans (hfr.below h.low.size fun b hb => by have := h.hg; omega), h.hg⟩
  have hs := h.deep.set t (.int .i64 (dp (rs.take k) t + 1))
  have hv : dp (rs.take (k + 1)) t = dp (rs.take k) t + 1 := by rw [dp_take rs k hk]; unfold dp1; rw [if_pos ht, if_pos h3]
  rw [← hv, row17_set (fun t : Nat => .int .i64 (dp (rs.take k) t)) (fun t : Nat => .int .i64 (dp (rs.take (k + 1)) t)) t h17 (fun j hj => by rw [dp_same hk (.inl (by rw [ht]; omega))])] at hs
  rw [hv] at hs
  exact hs
/-- A Leave behind which its task still reads. -/
theorem ErRel.leave {w : World} {g : Nat} {rs : List Rc} {k : Nat} {M : Nat → Option Nat} {wr : World} (h : ErRel w g rs k M wr) (hk : k < rs.length) (h4 : (rs.getD k .zero).k = 4) {t : Nat} (ht : (rs.getD k .zero).t = t) (h17 : t < 17) (hp : 1 < dp (rs.take k) t) :
    ErRel w g rs (k + 1) M (wr.setCell ⟨g, t, none⟩ (.int .i64 (dp (rs.take k) t - 1))) := by
  have hfr : Fr (fun b => b = g) wr (wr.setCell ⟨g, t, none⟩ (.int .i64 (dp (rs.take k) t - 1))) := (Fr.refl (fun b => b = g) wr).setCell (p := ⟨g, t, none⟩) (fun _ => rfl) _
  have hv : dp (rs.take (k + 1)) t = dp (rs.take k) t - 1 := by rw [dp_take rs k hk]; unfold dp1; rw [if_pos ht, if_neg (by omega), if_pos h4, if_pos (by omega)]
  refine ⟨?_, h.arr.fr hfr (by omega), (h.sets.fr hfr (fun b hb e => by omega)).same fun o ho x => ?_, h.low.trans (hfr.below h.low.size fun b hb => by have := h.hg; omega), h.hg⟩
  · have hs := h.deep.set t (.int .i64 (dp (rs.take k) t - 1))
    rw [← hv, row17_set (fun t : Nat => .int .i64 (dp (rs.take k) t)) (fun t : Nat => .int .i64 (dp (rs.take (k + 1)) t)) t h17 (fun j hj => by rw [dp_same hk (.inl (by rw [ht]; omega))])] at hs
    rw [hv] at hs
    exact hs
  · by_cases hx : x = t
    · subst hx
      exact SetIs.still hk (fun hl => by have := hl.1; omega) (by rw [hv]; omega)
    · exact SetIs.keep hk (fun hl => by have := hl.1; omega) (.inl (by rw [ht]; exact Ne.symm hx))
theorem ErRel.drewN {w : World} {g : Nat} {rs : List Rc} {k : Nat} {M : Nat → Option Nat} {wr : World} (h : ErRel w g rs k M wr) (n : Nat) : ErRel w g rs k M (wr.drewN n) :=
  ⟨h.deep.drewN n, h.arr.drewN n, h.sets.fr ((Fr.refl Nil wr).drewN n) (fun _ _ h => h), tk_drewN' h.low n, h.hg⟩
/-- While x is struck from the sets, j of them done. -/
structure Mid (rs : List Rc) (k base : Nat) (M : Nat → Option Nat) (j : Nat) (wr : World) : Prop where
  some_ : ∀ o b, o < 64 → M o = some b → base ≤ b ∧ ∃ n S, n ≤ 17 ∧ IntSet Try.prog wr 3 4 b n S ∧ ∀ y, S y = true ↔ (if o < j then SetIs rs (k + 1) o y else SetIs rs k o y)
  none_ : ∀ o, o < 64 → M o = none → ∀ x, ¬ SetIs rs k o x
  inj : ∀ o o' b, o < 64 → o' < 64 → M o = some b → M o' = some b → o = o'
theorem Mid.start {rs : List Rc} {k base : Nat} {M : Nat → Option Nat} {wr : World} (h : Sets rs k base M wr) : Mid rs k base M 0 wr :=
  ⟨fun o b ho hb => by
    obtain ⟨h1, n, S, h2, h3, h4⟩ := h.some_ o b ho hb
    exact ⟨h1, n, S, h2, h3, fun y => by rw [if_neg (by omega)]; exact h4 y⟩, h.none_, h.inj⟩
theorem Mid.done {rs : List Rc} {k base : Nat} {M : Nat → Option Nat} {wr : World} (h : Mid rs k base M 64 wr) (hk : k < rs.length) (h4 : (rs.getD k .zero).k = 4) : Sets rs (k + 1) base M wr :=
  ⟨fun o b ho hb => by
    obtain ⟨h1, n, S, h2, h3, h5⟩ := h.some_ o b ho hb
    exact ⟨h1, n, S, h2, h3, fun y => by have := h5 y; rwa [if_pos ho] at this⟩, fun o ho hm x hx => h.none_ o ho hm x ((SetIs.step hk (fun hl => by have := hl.1; omega)).1 hx).1, h.inj⟩
theorem Mid.skip {rs : List Rc} {k base : Nat} {M : Nat → Option Nat} {wr : World} {j : Nat} (h : Mid rs k base M j wr) (hm : M j = none) : Mid rs k base M (j + 1) wr :=
  ⟨fun o b ho hb => by
    obtain ⟨h1, n, S, h2, h3, h5⟩ := h.some_ o b ho hb
    have hne : o ≠ j := fun e => by rw [e, hm] at hb; cases hb
    refine ⟨h1, n, S, h2, h3, fun y => (h5 y).trans ?_⟩
    by_cases ho : o < j
    · rw [if_pos ho, if_pos (by omega)]
    · rw [if_neg ho, if_neg (by omega)], h.none_, h.inj⟩
theorem Mid.strike {rs : List Rc} {k base : Nat} {M : Nat → Option Nat} {wr w' : World} {j b n : Nat} {S : Int → Bool} (h : Mid rs k base M j wr) (hj : j < 64) (hm : M j = some b) (hn : n ≤ 17) (hk : k < rs.length) (h4 : (rs.getD k .zero).k = 4)
    (hx : ¬ 0 < dp (rs.take (k + 1)) (rs.getD k .zero).t) (hS : ∀ y, S y = true ↔ SetIs rs k j y) (hs : IntSet Try.prog w' 3 4 b n (fun z => if z = (rs.getD k .zero).t then false else S z)) (hg : wr.grownBy w' (some b)) : Mid rs k base M (j + 1) w' := by
  have hl : ∀ o : Int, ¬ isLater rs o k := fun o hl => by have := hl.1; omega
  refine ⟨fun o b' ho hb => ?_, h.none_, h.inj⟩
  obtain ⟨h1, n', S', h2, h3, h5⟩ := h.some_ o b' ho hb
  by_cases hoj : o = j
  · subst hoj
    rw [hm] at hb
    injection hb with hb
    subst hb
    refine ⟨h1, n, _, hn, hs, fun y => ?_⟩
    rw [if_pos (Nat.lt_succ_self _)]
    by_cases hy : y = (rs.getD k .zero).t
    · rw [if_pos hy]
      simp only [Bool.false_eq_true, false_iff]
      rw [hy]
      exact SetIs.out hk (hl _) hx
    · rw [if_neg hy, hS y, SetIs.keep hk (hl _) (.inl (Ne.symm hy))]
  · have hne : b' ≠ b := fun e => hoj (h.inj o j b ho hj (e ▸ hb) hm)
    refine ⟨h1, n', S', h2, h3.fr (Fr.of_grown hg) (fun e => hne (by injection e with e; exact e.symm)), fun y => (h5 y).trans ?_⟩
    by_cases ho : o < j
    · rw [if_pos ho, if_pos (by omega)]
    · rw [if_neg ho, if_neg (by omega)]
structure MidRel (w : World) (g : Nat) (rs : List Rc) (k : Nat) (M : Nat → Option Nat) (j : Nat) (wr : World) : Prop where
  deep : Blk wr g (row17 fun t => .int .i64 (dp (rs.take (k + 1)) t)) 66
  arr : Blk wr (g + 1) (rowOf fun o => .map (M o)) 68
  mid : Mid rs k (g + 2) M j wr
  low : Below w.heap.size w wr
  hg : w.heap.size ≤ g
theorem MidRel.start {w : World} {g : Nat} {rs : List Rc} {k : Nat} {M : Nat → Option Nat} {wr : World} (h : ErRel w g rs k M wr) (hk : k < rs.length) (h4 : (rs.getD k .zero).k = 4) {t : Nat} (ht : (rs.getD k .zero).t = t) (h17 : t < 17) (hp : dp (rs.take k) t ≤ 1) (X : Obj) (n : Nat) :
    MidRel w g rs k M 0 (((wr.setCell ⟨g, t, none⟩ (.int .i64 0)).alloc X).drewN n) ∧ dp (rs.take (k + 1)) t = 0 := by
  have hr := dp_rng rs t k (Nat.le_of_lt hk)
  have hv : dp (rs.take (k + 1)) t = 0 := by rw [dp_take rs k hk]; unfold dp1; rw [if_pos ht, if_neg (by omega), if_pos h4]; split <;> omega
  have hfr : Fr (fun b => b = g) wr (((wr.setCell ⟨g, t, none⟩ (.int .i64 0)).alloc X).drewN n) := ((((Fr.refl (fun b => b = g) wr).setCell (p := ⟨g, t, none⟩) (fun _ => rfl) _).alloc X).drewN n)
  refine ⟨⟨?_, h.arr.fr hfr (by omega), Mid.start (h.sets.fr hfr (fun b hb e => by omega)), h.low.trans (hfr.below h.low.size fun b hb => by have := h.hg; omega), h.hg⟩, hv⟩
  have hs := h.deep.set t (.int .i64 0)
  have e0 : (Value.int .i64 0) = .int .i64 (dp (rs.take (k + 1)) t) := by rw [hv]
  rw [e0, row17_set (fun t : Nat => .int .i64 (dp (rs.take k) t)) (fun t : Nat => .int .i64 (dp (rs.take (k + 1)) t)) t h17 (fun j hj => by rw [dp_same hk (.inl (by rw [ht]; omega))])] at hs
  rw [← e0] at hs
  exact (hs.alloc X).drewN n
theorem MidRel.next {w : World} {g : Nat} {rs : List Rc} {k : Nat} {M : Nat → Option Nat} {j : Nat} {wr w' : World} {b : Nat} (h : MidRel w g rs k M j wr) (hb : g + 2 ≤ b) (hm : Mid rs k (g + 2) M (j + 1) w') (hg : wr.grownBy w' (some b)) : MidRel w g rs k M (j + 1) w' := by
  have hfr : Fr (fun x => x = b) wr w' := (Fr.of_grown hg).mono fun x _ e => by injection e with e; exact e.symm
  exact ⟨h.deep.fr hfr (by omega), h.arr.fr hfr (by omega), hm, h.low.trans (hfr.below h.low.size fun x hx => by have := h.hg; omega), h.hg⟩
theorem MidRel.done {w : World} {g : Nat} {rs : List Rc} {k : Nat} {M : Nat → Option Nat} {wr : World} (h : MidRel w g rs k M 64 wr) (hk : k < rs.length) (h4 : (rs.getD k .zero).k = 4) : ErRel w g rs (k + 1) M wr := ⟨h.deep, h.arr, h.mid.done hk h4, h.low, h.hg⟩
/-- The tasks ahead of j that read. -/
def whoS (rs : List Rc) (k j : Nat) : Int → Bool := fun x => decide (0 ≤ x ∧ x < j) && decide (0 < dp (rs.take k) x)
theorem whoS_yes {rs : List Rc} {k j : Nat} (h : 0 < dp (rs.take k) j) : (fun z : Int => if z = j then true else whoS rs k j z) = whoS rs k (j + 1) := by
  funext z
  unfold whoS
  by_cases hz : z = j
  · subst hz; rw [if_pos rfl]; simp [h]; omega
  · rw [if_neg hz]; congr 1; rw [decide_eq_decide]; omega
theorem whoS_no {rs : List Rc} {k j : Nat} (h : ¬ 0 < dp (rs.take k) j) : whoS rs k j = whoS rs k (j + 1) := by
  funext z
  unfold whoS
  by_cases hz : z = j
  · subst hz; simp [h]
  · congr 1; rw [decide_eq_decide]; omega
theorem whoS_zero {rs : List Rc} {k : Nat} : (fun _ => false) = whoS rs k 0 := by
  funext z
  unfold whoS
  have : ¬ (0 ≤ z ∧ z < ((0 : Nat) : Int)) := by omega
  simp only [this, decide_false, Bool.false_and]
theorem ErRel.later {w : World} {g : Nat} {rs : List Rc} {k : Nat} {M : Nat → Option Nat} {wr : World} (h : ErRel w g rs k M wr) (hk : k < rs.length) (hgd : ∀ k, k < rs.length → (rs.getD k .zero).err = 0) (h8 : (rs.getD k .zero).k = 8) {o : Nat} (ho : (rs.getD k .zero).o = o) (h64 : o < 64)
    {q n : Nat} (hn : n ≤ 17) (hq : g + 2 ≤ q) (hS : IntSet Try.prog wr 3 4 q n (whoS rs k 17)) (hne : ∀ o' b, o' < 64 → M o' = some b → b ≠ q) :
    ErRel w g rs (k + 1) (fun o' => if o' = o then some q else M o') (wr.setCell ⟨g + 1, o, none⟩ (.map (some q))) := by
  have hfr : Fr (fun b => b = g + 1) wr (wr.setCell ⟨g + 1, o, none⟩ (.map (some q))) := (Fr.refl (fun b => b = g + 1) wr).setCell (p := ⟨g + 1, o, none⟩) (fun _ => rfl) _
  refine ⟨?_, ?_, ⟨fun o' b ho' hb => ?_, fun o' ho' hm x hx => ?_, fun o1 o2 b h1 h2 hb1 hb2 => ?_⟩, h.low.trans (hfr.below h.low.size fun b hb => by have := h.hg; omega), h.hg⟩
  · have e : (fun t : Nat => Value.int .i64 (dp (rs.take (k + 1)) t)) = fun t : Nat => Value.int .i64 (dp (rs.take k) t) := by
      funext t; rw [dp_same hk (.inr ⟨by omega, by omega⟩)]
    rw [e]; exact h.deep.fr hfr (by omega)
  · have hs := h.arr.set o (.map (some q))
    have e0 : (Value.map (some q)) = (fun o' => Value.map (if o' = o then some q else M o')) o := by simp
    rw [e0, rowOf_set (fun o' => .map (M o')) (fun o' => Value.map (if o' = o then some q else M o')) o h64 (fun j hj => by simp [hj])] at hs
    rw [← e0] at hs
    exact hs
  · by_cases hoo : o' = o
    · subst hoo
      rw [if_pos rfl] at hb
      obtain rfl := Option.some.inj hb
      refine ⟨hq, n, _, hn, hS.fr hfr (by omega), fun x => ?_⟩
      rw [SetIs.new ⟨h8, ho⟩]
      unfold whoS
      simp only [Bool.and_eq_true, decide_eq_true_eq]
      constructor
      · rintro ⟨⟨h1, h2⟩, h3⟩
        refine ⟨?_, by omega, h3⟩
        rcases Int.lt_or_le x 1 with h4 | h4
        · rw [dp_out hgd (.inl h4) k (Nat.le_of_lt hk)] at h3; omega
        · exact h4
      · rintro ⟨h1, h2, h3⟩
        exact ⟨⟨by omega, by omega⟩, h3⟩
    · rw [if_neg hoo] at hb
      obtain ⟨h1, n', S, h2, h3, h4⟩ := h.sets.some_ o' b ho' hb
      exact ⟨h1, n', S, h2, h3.fr hfr (by omega), fun x => (h4 x).trans (SetIs.keep hk (fun hl => hoo (by have := hl.2; omega)) (.inr (by omega))).symm⟩
  · by_cases hoo : o' = o
    · rw [if_pos hoo] at hm; cases hm
    · rw [if_neg hoo] at hm
      exact h.sets.none_ o' ho' hm x ((SetIs.keep hk (fun hl => hoo (by have := hl.2; omega)) (.inr (by omega))).1 hx)
  · by_cases ho1 : o1 = o
    · rw [if_pos ho1] at hb1
      by_cases ho2 : o2 = o
      · rw [ho1, ho2]
      · rw [if_neg ho2] at hb2
        exact absurd (Option.some.inj hb1).symm (hne o2 b h2 hb2)
    · rw [if_neg ho1] at hb1
      by_cases ho2 : o2 = o
      · rw [if_pos ho2] at hb2
        exact absurd (Option.some.inj hb2).symm (hne o1 b h1 hb1)
      · rw [if_neg ho2] at hb2
        exact h.sets.inj o1 o2 b h1 h2 hb1 hb2
theorem ErRel.apart {w : World} {g : Nat} {rs : List Rc} {k : Nat} {M : Nat → Option Nat} {wr w' : World} {q : Nat} (h : ErRel w g rs k M wr) (hg : wr.grownBy w' (some q)) (hq : g + 2 ≤ q) (hne : ∀ o' b, o' < 64 → M o' = some b → b ≠ q) : ErRel w g rs k M w' := by
  have hfr : Fr (fun x => x = q) wr w' := (Fr.of_grown hg).mono fun x _ e => by injection e with e; exact e.symm
  exact ⟨h.deep.fr hfr (by omega), h.arr.fr hfr (by omega), ⟨fun o b ho hb => by
    obtain ⟨h1, n, S, h2, h3, h4⟩ := h.sets.some_ o b ho hb
    exact ⟨h1, n, S, h2, h3.fr hfr (hne o b ho hb), h4⟩, h.sets.none_, h.sets.inj⟩, h.low.trans (hfr.below h.low.size fun x hx => by have := h.hg; omega), h.hg⟩
end Go.Proofs.Ytjdbclcafjlohaa
