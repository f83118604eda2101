/- The law ringlaw1.GracePlays: what is held between two plays, and the plain law. -/
import Derived.Test.YtjcbnanajelpjaaGrE
namespace Go.Proofs.Ytjcbnanajelpjaa
open Go.RowKit
set_option maxHeartbeats 400000
set_option linter.unusedVariables false
set_option linter.unusedSimpArgs false
def dcells (d : Nat → Int) : Array Value := #[.int .i64 (d 0), .int .i64 (d 1), .int .i64 (d 2), .int .i64 (d 3)]
theorem dcells_at (d : Nat → Int) {i : Nat} (h : i < 4) : (dcells d)[i]? = some (.int .i64 (d i)) := by
  rcases lt4 h with rfl | rfl | rfl | rfl <;> rfl
theorem dcells_set (d : Nat → Int) {i : Nat} (h : i < 4) (x : Int) : (dcells d).setIfInBounds i (.int .i64 x) = dcells (upd d i x) := by
  rcases lt4 h with rfl | rfl | rfl | rfl <;> rfl
/-- The law's own half: its numbers at q, its calls v6. -/
structure LwP (w : World) (B q : Nat) (d : Nat → Int) (v6 : Value) (ls : List LC) : Prop where
  blk : Blk w q (dcells d) 102
  row : Row w B 106 5 v6 ls.length (ls.flatMap LC.cells)
  low : B ≤ q
  ne : v6.ownBlock ≠ some q
def LwF (q : Nat) (v6 : Value) : Nat → Prop := fun k => k = q ∨ v6.ownBlock = some k
theorem LwP.keep {w w' : World} {B q : Nat} {d : Nat → Int} {v6 : Value} {ls : List LC} (h : LwP w B q d v6 ls) {S : Nat → Prop} (hf : Fr S w w') (hn : ∀ k, LwF q v6 k → ¬ S k) : LwP w' B q d v6 ls :=
  ⟨h.blk.fr hf (hn q (.inl rfl)), h.row.fr hf (fun k hk => hn k (.inr hk)), h.low, h.ne⟩
theorem LwP.lt {w : World} {B q : Nat} {d : Nat → Int} {v6 : Value} {ls : List LC} (h : LwP w B q d v6 ls) : ∀ k, LwF q v6 k → B ≤ k ∧ k < w.heap.size := fun k hk => by
  rcases hk with rfl | hk
  · exact ⟨h.low, h.blk.lt⟩
  · exact h.row.lt k hk
theorem GrSt.ltF {w : World} {B g : Nat} {d t : Nat → Int} {v : Value} {cs : List GC} (h : GrSt w B g d t v cs) : ∀ k, GrF g v k → k < w.heap.size := fun k hk => by
  rcases hk with rfl | hk
  · exact h.blk.lt
  · exact (h.row.lt k hk).2
/-- Both halves, apart from one another. -/
structure Both (w wr : World) (g : Nat) (v : Value) (d t : Nat → Int) (cs : List GC) (q : Nat) (dl : Nat → Int) (v6 : Value) (ls : List LC) : Prop where
  ob : GrSt wr w.heap.size g d t v cs
  lw : LwP wr w.heap.size q dl v6 ls
  sep : ∀ k, LwF q v6 k → ¬ GrF g v k
  low : Below w.heap.size w wr
section
variable {w wr w' : World} {g : Nat} {v : Value} {d t : Nat → Int} {cs : List GC} {q : Nat} {dl : Nat → Int} {v6 : Value} {ls : List LC}
theorem Both.grow (h : Both w wr g v d t cs q dl v6 ls) (hb : Below wr.heap.size wr w') : Both w w' g v d t cs q dl v6 ls :=
  ⟨h.ob.keep (Fr.of_grow hb) (fun _ _ h => h), h.lw.keep (Fr.of_grow hb) (fun _ _ h => h), h.sep, h.low.trans (hb.mono h.low.size)⟩
theorem Both.alloc (h : Both w wr g v d t cs q dl v6 ls) (X : Obj) : Both w (wr.alloc X) g v d t cs q dl v6 ls := h.grow ((Below.refl _ _).alloc (Nat.le_refl _) X)
theorem Both.drewN (h : Both w wr g v d t cs q dl v6 ls) (n : Nat) : Both w (wr.drewN n) g v d t cs q dl v6 ls := h.grow (sl_below_drewN (Below.refl _ _) n)
theorem Both.obj {d' t' : Nat → Int} {cs' : List GC} (h : Both w wr g v d t cs q dl v6 ls) (hg : GrGo wr w.heap.size g v d' t' cs' w') : ∃ v', Both w w' g v' d' t' cs' q dl v6 ls := by
  obtain ⟨v', h1, h2, h3⟩ := hg
  refine ⟨v', h1, h.lw.keep h2 h.sep, fun k hk hf => ?_, h.low.trans (h2.below h.low.size h.ob.lowF)⟩
  rcases h3 k hf with h4 | h4
  · exact h.sep k hk h4
  · have := (h.lw.lt k hk).2; omega
theorem Both.law {dl' : Nat → Int} {v6' : Value} {ls' : List LC} (h : Both w wr g v d t cs q dl v6 ls) (h1 : LwP w' w.heap.size q dl' v6' ls') (h2 : Fr (LwF q v6) wr w') (h3 : ∀ k, LwF q v6' k → LwF q v6 k ∨ wr.heap.size ≤ k) : Both w w' g v d t cs q dl' v6' ls' := by
  refine ⟨h.ob.keep h2 (fun k hk hl => h.sep k hl hk), h1, fun k hk hf => ?_, h.low.trans (h2.below h.low.size fun k hk => (h.lw.lt k hk).1)⟩
  rcases h3 k hk with h4 | h4
  · exact h.sep k h4 hf
  · have := h.ob.ltF k hf; omega
theorem Both.setd (h : Both w wr g v d t cs q dl v6 ls) {i : Nat} (hi : i < 4) (x : Int) : Both w (wr.setCell ⟨q, i, none⟩ (.int .i64 x)) g v d t cs q (upd dl i x) v6 ls := by
  refine h.law ⟨?_, h.lw.row.setCell (p := ⟨q, i, none⟩) h.lw.ne _, h.lw.low, h.lw.ne⟩ ((Fr.refl _ wr).setCell (p := ⟨q, i, none⟩) (fun _ => .inl rfl) _) (fun k hk => .inl hk)
  have := h.lw.blk.set i (.int .i64 x)
  rwa [dcells_set dl hi] at this
end
/-- What the law holds of a call. -/
def toL (d t : Nat → Int) (c : GC) : LC := ⟨c.id, blocks d t c⟩
def rowsL (d t : Nat → Int) (cs : List GC) : List LC := cs.map (toL d t)
structure Fit (j : Nat) (d t : Nat → Int) (cs : List GC) : Prop where
  len : cs.length ≤ 256
  rng : ∀ k, k < 4 → 0 ≤ d k ∧ d k ≤ 8 ∧ 0 ≤ t k ∧ t k ≤ j ∧ (0 < d k → 1 ≤ t k)
  old : ∀ c ∈ cs, ∀ k, k < 4 → c.w k ≤ t k
theorem lc_ext {a b : LC} (h : a.id = b.id) (hb : ∀ k, k < 4 → a.b k = b.b k) : a.cells = b.cells := by
  unfold LC.cells
  rw [h, hb 0 (by omega), hb 1 (by omega), hb 2 (by omega), hb 3 (by omega)]
theorem flat_congr {α : Type} (f f' : α → LC) (cs : List α) (h : ∀ c ∈ cs, (f c).cells = (f' c).cells) : (cs.map f).flatMap LC.cells = (cs.map f').flatMap LC.cells := by
  induction cs with
  | nil => rfl
  | cons a cs ih =>
    simp only [List.map_cons, List.flatMap_cons]
    rw [h a (by simp), ih (fun c hc => h c (by simp [hc]))]
theorem Both.rows {w wr : World} {g : Nat} {v : Value} {d t : Nat → Int} {cs : List GC} {q : Nat} {dl : Nat → Int} {v6 : Value} {ls ls' : List LC} (h : Both w wr g v d t cs q dl v6 ls) (hl : ls.length = ls'.length) (hf : ls.flatMap LC.cells = ls'.flatMap LC.cells) : Both w wr g v d t cs q dl v6 ls' :=
  ⟨h.ob, ⟨h.lw.blk, by rw [← hl, ← hf]; exact h.lw.row, h.lw.low, h.lw.ne⟩, h.sep, h.low⟩
theorem Fit.more {j : Nat} {d t : Nat → Int} {cs : List GC} (h : Fit j d t cs) : Fit (j + 1) d t cs := ⟨h.len, fun k hk => by have := h.rng k hk; omega, h.old⟩
def entT (d t : Nat → Int) (i : Nat) : Nat → Int := if d i = 0 then upd t i (t i + 1) else t
theorem Fit.enter {j : Nat} {d t : Nat → Int} {cs : List GC} (h : Fit j d t cs) {i : Nat} (hi : i < 4) (h8 : d i < 8) : Fit (j + 1) (upd d i (d i + 1)) (entT d t i) cs := by
  have hr := h.rng i hi
  unfold entT
  by_cases hz : d i = 0
  · rw [if_pos hz]
    refine ⟨h.len, fun k hk => ?_, fun c hc k hk => ?_⟩
    · have := h.rng k hk
      by_cases hki : k = i
      · subst hki; rw [upd_same, upd_same]; omega
      · rw [upd_ne _ _ hki, upd_ne _ _ hki]; omega
    · have := h.old c hc k hk
      by_cases hki : k = i
      · subst hki; rw [upd_same]; omega
      · rw [upd_ne _ _ hki]; exact this
  · rw [if_neg hz]
    refine ⟨h.len, fun k hk => ?_, h.old⟩
    have := h.rng k hk
    by_cases hki : k = i
    · subst hki; rw [upd_same]; omega
    · rw [upd_ne _ _ hki]; omega
theorem rows_enter {j : Nat} {d t : Nat → Int} {cs : List GC} (h : Fit j d t cs) {i : Nat} (hi : i < 4) : (rowsL d t cs).flatMap LC.cells = (rowsL (upd d i (d i + 1)) (entT d t i) cs).flatMap LC.cells := by
  refine flat_congr _ _ cs fun c hc => lc_ext rfl fun k hk => ?_
  have hr := h.rng i hi
  have ho := h.old c hc k hk
  unfold toL blocks entT
  dsimp only
  by_cases hki : k = i
  · subst hki
    by_cases hz : d k = 0
    · rw [if_pos hz, upd_same, upd_same, Bool.eq_iff_iff]; simp; omega
    · rw [if_neg hz, upd_same, Bool.eq_iff_iff]; simp; omega
  · rw [upd_ne _ _ hki]
    by_cases hz : d i = 0
    · rw [if_pos hz, upd_ne _ _ hki]
    · rw [if_neg hz]
theorem Fit.leave {j : Nat} {d t : Nat → Int} {cs : List GC} (h : Fit j d t cs) {i : Nat} (hi : i < 4) (h0 : 0 < d i) : Fit (j + 1) (upd d i (d i - 1)) t cs := by
  refine ⟨h.len, fun k hk => ?_, h.old⟩
  have := h.rng k hk
  have := h.rng i hi
  by_cases hki : k = i
  · subst hki; rw [upd_same]; omega
  · rw [upd_ne _ _ hki]; omega
/-- A call that waits for i no more. -/
def clr (i : Nat) (l : LC) : LC := ⟨l.id, fun k => if k = i then false else l.b k⟩
theorem rows_leave {j : Nat} {d t : Nat → Int} {cs : List GC} (h : Fit j d t cs) {i : Nat} (hi : i < 4) (h1 : 1 < d i) : (rowsL d t cs).flatMap LC.cells = (rowsL (upd d i (d i - 1)) t cs).flatMap LC.cells := by
  refine flat_congr _ _ cs fun c hc => lc_ext rfl fun k hk => ?_
  unfold toL blocks
  dsimp only
  by_cases hki : k = i
  · subst hki; rw [upd_same, Bool.eq_iff_iff]; simp; omega
  · rw [upd_ne _ _ hki]
theorem rows_last {j : Nat} {d t : Nat → Int} {cs : List GC} (h : Fit j d t cs) {i : Nat} (hi : i < 4) (h1 : d i = 1) : ((rowsL d t cs).map (clr i)).flatMap LC.cells = (rowsL (upd d i (d i - 1)) t cs).flatMap LC.cells := by
  unfold rowsL
  rw [List.map_map]
  refine flat_congr _ _ cs fun c hc => lc_ext rfl fun k hk => ?_
  simp only [Function.comp, toL, blocks, clr]
  by_cases hki : k = i
  · subst hki; rw [upd_same, if_pos rfl, h1]; simp
  · rw [upd_ne _ _ hki, if_neg hki]
theorem Fit.call {j : Nat} {d t : Nat → Int} {cs : List GC} (h : Fit j d t cs) (x : Int) (hl : cs.length < 256) : Fit (j + 1) d t (cs ++ [newC x d t]) := by
  refine ⟨by simp; omega, fun k hk => by have := h.rng k hk; omega, fun c hc k hk => ?_⟩
  rcases List.mem_append.1 hc with hc | hc
  · exact h.old c hc k hk
  · rw [List.mem_singleton.1 hc]
    have := h.rng k hk
    unfold newC wv
    dsimp only
    split <;> omega
/-- The law's own new call. -/
def newL (x : Int) (d : Nat → Int) : LC := ⟨x, fun k => decide (0 < d k)⟩
theorem rows_call {j : Nat} {d t : Nat → Int} {cs : List GC} (h : Fit j d t cs) (x : Int) : (rowsL d t cs ++ [newL x d]).flatMap LC.cells = (rowsL d t (cs ++ [newC x d t])).flatMap LC.cells := by
  unfold rowsL
  rw [List.map_append, List.flatMap_append, List.flatMap_append]
  congr 1
  refine flat_congr (fun _ => newL x d) (toL d t) [newC x d t] fun c hc => ?_
  rw [List.mem_singleton.1 hc]
  refine lc_ext rfl fun k hk => ?_
  have := h.rng k hk
  unfold newL toL blocks newC wv
  dsimp only
  by_cases hd : 0 < d k
  · rw [Bool.eq_iff_iff]; simp [hk, hd]; omega
  · simp [hd]
theorem Fit.run {j : Nat} {d t : Nat → Int} {cs : List GC} (h : Fit j d t cs) : Fit (j + 1) d t (lft d t cs) :=
  ⟨Nat.le_trans (List.length_filter_le _ _) h.len, fun k hk => by have := h.rng k hk; omega, fun c hc k hk => h.old c (List.mem_filter.1 hc).1 k hk⟩
theorem has_rows (d t : Nat → Int) (cs : List GC) (x : Int) : LC.has (rowsL d t cs) x = GC.has cs x := by
  unfold LC.has GC.has rowsL
  rw [List.any_map]
  rfl
end Go.Proofs.Ytjcbnanajelpjaa
