/- The law ringlaw1.GracePlays: laws for what its loops write. -/
import Derived.Test.YtjcbnanajelpjaaGrF
import Derived.Laws.StructEq
namespace Go.Proofs.Ytjcbnanajelpjaa
open Go.RowKit
set_option maxHeartbeats 400000
set_option linter.unusedVariables false
set_option linter.unusedSimpArgs false
theorem row_spot {w : World} {base n g o c j : Nat} {e : TypeId} {size : Nat} {xs : List Value} (h : Row w base e size (.slice (some ⟨g, o, none⟩) n c) n xs) (hj : j < n * size) :
    (∃ u, w.cell? ⟨g, o + j, none⟩ = some u) ∧ w.frozen? ⟨g, o + j, none⟩ = false ∧ g < w.heap.size ∧ base ≤ g := by
  rcases h.2 with ⟨e1, _⟩ | ⟨g1, o1, cap, cur, e1, hbg, hg, hnc, hcm, hcs, hx⟩
  · injection e1 with e1; cases e1
  injection e1 with e1 e2 e3
  injection e1 with e1
  injection e1 with e1 e4
  subst e1; subst e4; subst e3
  have hjc : j < c * size := Nat.lt_of_lt_of_le hj (Nat.mul_le_mul_right _ hnc)
  have hB : Blk w g cur e := hg
  refine ⟨⟨cur[o + j]'(by omega), ?_⟩, hB.free _, hB.lt, hbg⟩
  rw [hB.cell, Array.getElem?_eq_getElem (by omega)]
def clrs (i m : Nat) (L : List LC) : List LC := (L.take m).map (clr i) ++ L.drop m
theorem clrs_len (i m : Nat) (L : List LC) (h : m ≤ L.length) : (clrs i m L).length = L.length := by
  unfold clrs
  simp; omega
theorem clrs_all (i : Nat) (L : List LC) : clrs i L.length L = L.map (clr i) := by simp [clrs]
theorem clr_cells (i : Nat) (hi : i < 4) (x : LC) : x.cells.set (1 + i) (.bool false) = (clr i x).cells := by
  rcases lt4 hi with rfl | rfl | rfl | rfl <;> simp [LC.cells, clr]
theorem flat_len (L : List LC) : (L.flatMap LC.cells).length = L.length * 5 := by
  induction L with
  | nil => rfl
  | cons a L ih => rw [List.flatMap_cons, List.length_append, ih]; simp [LC.cells]; omega
theorem clrs_set (i m : Nat) (L : List LC) (hm : m < L.length) (hi : i < 4) : ((clrs i m L).flatMap LC.cells).set (m * 5 + 1 + i) (.bool false) = (clrs i (m + 1) L).flatMap LC.cells := by
  unfold clrs
  rw [List.take_succ_eq_append_getElem hm, List.drop_eq_getElem_cons hm]
  simp only [List.map_append, List.map_cons, List.map_nil, List.flatMap_append, List.flatMap_cons, List.flatMap_nil, List.append_nil, List.append_assoc]
  have hl : (((L.take m).map (clr i)).flatMap LC.cells).length = m * 5 := by rw [flat_len]; simp; omega
  rw [List.set_append_right _ _ (by omega), hl, show m * 5 + 1 + i - m * 5 = 1 + i by omega, List.set_append_left _ _ (by simp [LC.cells]; omega), clr_cells i hi]
section
variable {w wr w' : World} {g : Nat} {v : Value} {d t : Nat → Int} {cs : List GC} {q : Nat} {dl : Nat → Int} {v6 : Value} {ls : List LC}
theorem Both.wipe {N b6 o6 c6 i m : Nat} {L : List LC} (h : Both w wr g v d t cs q dl (.slice (some ⟨b6, o6, none⟩) N c6) (clrs i m L)) (hN : L.length = N) (hm : m < N) (hi : i < 4) :
    Both w (wr.setCell ⟨b6, o6 + m * 5 + 1 + i, none⟩ (.bool false)) g v d t cs q dl (.slice (some ⟨b6, o6, none⟩) N c6) (clrs i (m + 1) L) := by
  subst hN
  have hne : b6 ≠ q := fun e => h.lw.ne (by simp [Value.ownBlock, e])
  have hrow := h.lw.row
  rw [clrs_len i m L (by omega)] at hrow
  refine h.law ⟨h.lw.blk.set_other (p := ⟨b6, o6 + m * 5 + 1 + i, none⟩) hne _, ?_, h.lw.low, h.lw.ne⟩ ((Fr.refl _ wr).setCell (p := ⟨b6, o6 + m * 5 + 1 + i, none⟩) (fun _ => .inr (by simp [Value.ownBlock])) _) (fun k hk => .inl hk)
  have := hrow.stored (j := m * 5 + 1 + i) (by omega) (.bool false)
  rw [clrs_set i m L hm hi, show o6 + (m * 5 + 1 + i) = o6 + m * 5 + 1 + i by omega] at this
  rw [clrs_len i (m + 1) L (by omega)]
  exact this
theorem Both.app {v7 : Value} {y : LC} {X : Obj} (h : Both w wr g v d t cs q dl v6 ls) (hr : Row w' w.heap.size 106 5 v7 (ls.length + 1) (ls.flatMap LC.cells ++ y.cells)) (hg : (wr.alloc X).grownBy w' v6.ownBlock) (ho : v7.ownBlock = v6.ownBlock ∨ v7.ownBlock = some (wr.heap.size + 1)) : Both w w' g v d t cs q dl v7 (ls ++ [y]) := by
  have hlt := h.lw.blk.lt
  refine h.law ⟨(h.lw.blk.alloc X).grown hg (Ne.symm h.lw.ne), by simpa using hr, h.lw.low, own_ne ho h.lw.ne (by omega)⟩ (((Fr.refl _ wr).alloc X).grown hg (fun k e _ => .inr e)) (fun k hk => ?_)
  rcases hk with hk | hk
  · exact .inl (.inl hk)
  · rcases own_cases ho hk with h2 | rfl
    · exact .inl (.inr h2)
    · exact .inr (by omega)
end
def updB (f : Nat → Bool) (i : Nat) (x : Bool) : Nat → Bool := fun j => if j = i then x else f j
def lcells (x : Int) (f : Nat → Bool) : Array Value := #[.int .i64 x, .bool (f 0), .bool (f 1), .bool (f 2), .bool (f 3)]
theorem lcells_set (x : Int) (f : Nat → Bool) {i : Nat} (h : i < 4) (b : Bool) : (lcells x f).setIfInBounds (1 + i) (.bool b) = lcells x (updB f i b) := by
  rcases lt4 h with rfl | rfl | rfl | rfl <;> rfl
theorem lcells_at (x : Int) (f : Nat → Bool) {i : Nat} (h : i < 4) : (lcells x f)[1 + i]? = some (.bool (f i)) := by
  rcases lt4 h with rfl | rfl | rfl | rfl <;> rfl
def nl (d : Nat → Int) (k : Nat) : Nat → Bool := fun j => if j < k then decide (0 < d j) else false
theorem nl_next (d : Nat → Int) (k : Nat) : updB (nl d k) k (decide (0 < d k)) = nl d (k + 1) := by
  funext j
  unfold updB nl
  by_cases hj : j = k
  · subst hj; rw [if_pos rfl, if_pos (Nat.lt_succ_self _)]
  · rw [if_neg hj]
    by_cases hk : j < k
    · rw [if_pos hk, if_pos (by omega)]
    · rw [if_neg hk, if_neg (by omega)]
theorem newL_cells (x : Int) (d : Nat → Int) : (newL x d).cells = [.int .i64 x, .bool (nl d 4 0), .bool (nl d 4 1), .bool (nl d 4 2), .bool (nl d 4 3)] := by
  simp [newL, LC.cells, nl]
theorem lc_one (c : LC) : ∀ u ∈ c.cells, u.oneCell' = true := by
  intro u hu
  simp [LC.cells] at hu
  rcases hu with rfl | rfl | rfl | rfl | rfl <;> rfl
theorem Try.info106 : (Try.prog.info? 106).map (fun i => (i.zero, i.size, i.bytes)) = some (some (.agg #[.int .i64 0, .bool false, .bool false, .bool false, .bool false]), 5, 16) := by kernel_rfl
theorem eqin104 (d : Nat) (a b c e : Bool) (w : World) : (Op.equalIn (d + 2) 104 (.agg #[.bool a, .bool b, .bool c, .bool e]) (.agg #[.bool false, .bool false, .bool false, .bool false])).run Try.prog w = .ok (!(a || b || c || e)) w := by
  rw [Op.equalIn]
  simp only [Sem.run_bind, run_underlying Try.underlying104, Result.andThen_ok]
  have hs : (sizeOf 4).run Try.prog w = .ok 1 w := by kernel_rfl
  simp [hs, List.range', part, Op.equalIn, run_underlying Try.underlying4, go_sem]
  cases a <;> cases b <;> cases c <;> cases e <;> simp [go_sem, Result.andThen]
theorem run_eq104 (a b c e : Bool) (w : World) : (binOp .eql 104 (.agg #[.bool a, .bool b, .bool c, .bool e]) (.agg #[.bool false, .bool false, .bool false, .bool false])).run Try.prog w = .ok (.bool (!(a || b || c || e))) w := by
  rw [run_eql_struct, eqin104]; rfl
structure RunL (w : World) (d t : Nat → Int) (os ls : List GC) (v3 v4 : Value) (wr : World) : Prop where
  out : Row wr w.heap.size 3 1 v3 os.length (os.map fun c => .int .i64 c.id)
  lft : Row wr w.heap.size 106 5 v4 ls.length ((rowsL d t ls).flatMap LC.cells)
  dis : ∀ k, v3.ownBlock = some k → v4.ownBlock ≠ some k
  low : Below w.heap.size w wr
theorem RunL.grow {w wr w' : World} {d t : Nat → Int} {os ls : List GC} {v3 v4 : Value} (h : RunL w d t os ls v3 v4 wr) (hb : Below wr.heap.size wr w') : RunL w d t os ls v3 v4 w' :=
  ⟨h.out.grow hb, h.lft.grow hb, h.dis, h.low.trans (hb.mono h.low.size)⟩
theorem RunL.addOut {w wr w' : World} {d t : Nat → Int} {os ls : List GC} {v3 v4 v5 : Value} {c : GC} {X : Obj} (h : RunL w d t os ls v3 v4 wr) (hr : Row w' w.heap.size 3 1 v5 (os.length + 1) ((os.map fun c => .int .i64 c.id) ++ [.int .i64 c.id])) (hg : (wr.alloc X).grownBy w' v3.ownBlock) (ho : v5.ownBlock = v3.ownBlock ∨ v5.ownBlock = some (wr.heap.size + 1)) : RunL w d t (os ++ [c]) ls v5 v4 w' := by
  refine ⟨by simpa using hr, (h.lft.alloc X).grown hg (fun k hk e => h.dis k e hk), fun k hk e => ?_, (h.low.alloc h.low.size X).grown hg (by simp; have := h.low.size; omega) (fun k hk => (h.out.lt k hk).1)⟩
  rcases own_cases ho hk with h1 | rfl
  · exact h.dis k h1 e
  · have := (h.lft.lt _ e).2; omega
theorem RunL.addLft {w wr w' : World} {d t : Nat → Int} {os ls : List GC} {v3 v4 v5 : Value} {c : GC} {X : Obj} (h : RunL w d t os ls v3 v4 wr) (hr : Row w' w.heap.size 106 5 v5 (ls.length + 1) ((rowsL d t ls).flatMap LC.cells ++ (toL d t c).cells)) (hg : (wr.alloc X).grownBy w' v4.ownBlock) (ho : v5.ownBlock = v4.ownBlock ∨ v5.ownBlock = some (wr.heap.size + 1)) : RunL w d t os (ls ++ [c]) v3 v5 w' := by
  refine ⟨(h.out.alloc X).grown hg (fun k hk e => h.dis k hk e), by simpa [rowsL] using hr, fun k hk e => ?_, (h.low.alloc h.low.size X).grown hg (by simp; have := h.low.size; omega) (fun k hk => (h.lft.lt k hk).1)⟩
  rcases own_cases ho e with h1 | rfl
  · exact h.dis k hk h1
  · have := (h.out.lt _ hk).2; omega
theorem gr_reads_two (w : World) (X : Obj) (u : Value) (t : TypeId) : Reads ((w.alloc X).alloc (.cells #[u] t)) (w.heap.size + 2) 1 (some ⟨w.heap.size + 1, 0, none⟩) 1 [u] := by
  have := reads_one (w.alloc X) u t
  simpa using this
theorem gr_reads_six (w : World) (X : Obj) (a b c d e : Value) (t : TypeId) : Reads ((w.alloc X).alloc (.cells #[a, b, c, d, e] t)) (w.heap.size + 2) 5 (some ⟨w.heap.size + 1, 0, none⟩) 1 [a, b, c, d, e] := by
  have := reads_five (w.alloc X) a b c d e t
  simpa using this
theorem rowsL_at {d t : Nat → Int} {cs : List GC} {k : Nat} (h : k < cs.length) : (rowsL d t cs).getD k .zero = toL d t (cs.getD k .zero) := by
  simp [rowsL, List.getD, List.getElem?_map, List.getElem?_eq_getElem h]
/-- The object has run; what is left of the law's calls is now its list. -/
theorem Both.ran {w wr W w' : World} {g : Nat} {v : Value} {d t : Nat → Int} {cs cs' : List GC} {q : Nat} {dl : Nat → Int} {v6 v4 v3 : Value} {ls : List LC} {os : List GC} (h : Both w W g v d t cs q dl v6 ls) (hR : RunL W d t os cs' v3 v4 wr) (hg : GrGo wr w.heap.size g v d t cs' w') :
    ∃ v', Both w w' g v' d t cs' q dl v4 (rowsL d t cs') := by
  have hW := h.grow hR.low
  have hb0 := h.low.size
  obtain ⟨v', h1, h2, h3⟩ := hg
  have hq : ¬ GrF g v q := h.sep q (.inl rfl)
  have hlq := hW.lw.keep h2 h.sep
  have hv4 : ∀ k, v4.ownBlock = some k → ¬ GrF g v k := fun k hk hf => by have := (hR.lft.lt k hk).1; have := h.ob.ltF k hf; omega
  refine ⟨v', h1, ⟨hlq.blk, ?_, h.lw.low, fun e => by have := (hR.lft.lt q e).1; have := h.lw.blk.lt; omega⟩, fun k hk hf => ?_, hW.low.trans (h2.below hW.low.size h.ob.lowF)⟩
  · have hl : (rowsL d t cs').length = cs'.length := by simp [rowsL]
    rw [hl]
    exact (hR.lft.fr h2 (fun k hk => hv4 k hk)).base_le hb0
  · rcases hk with rfl | hk
    · rcases h3 _ hf with h4 | h4
      · exact hq h4
      · have := hW.lw.blk.lt; omega
    · rcases h3 k hf with h4 | h4
      · exact hv4 k hk h4
      · have := (hR.lft.lt k hk).2; omega
end Go.Proofs.Ytjcbnanajelpjaa
