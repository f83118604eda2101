/- The law ringlaw1.WrapRings: what is held between two records. -/
import Derived.Test.YtenhcpobncmedaaWrD
namespace Go.Proofs.Ytenhcpobncmedaa
open Go.RowKit
set_option maxHeartbeats 400000
set_option linter.unusedVariables false
set_option linter.unusedSimpArgs false
/-- The records that a ring takes. -/
def keepL (ps : List Rb) : List Rb := ps.filter fun r => decide (r.n ≤ 32)
theorem keepL_take {ps : List Rb} {k : Nat} {r : Rb} (h : ps[k]? = some r) : keepL (ps.take (k + 1)) = keepL (ps.take k) ++ (if r.n ≤ 32 then [r] else []) := by
  obtain ⟨hk, rfl⟩ := List.getElem?_eq_some_iff.1 h
  unfold keepL
  rw [List.take_succ_eq_append_getElem hk, List.filter_append]
  by_cases h' : ps[k].n ≤ 32 <;> simp [h']
theorem keepL_len (ps : List Rb) (k : Nat) : (keepL (ps.take k)).length ≤ k := by
  unfold keepL
  have := List.length_filter_le (fun r => decide (r.n ≤ 32)) (ps.take k)
  rw [List.length_take] at this
  omega
theorem keepL_mem {ps : List Rb} {k : Nat} {r : Rb} (h : r ∈ keepL (ps.take k)) : r ∈ ps ∧ r.n ≤ 32 := by
  unfold keepL at h
  rw [List.mem_filter] at h
  exact ⟨List.mem_of_mem_take h.1, by simpa using h.2⟩
/-- The ring holds the last s records. -/
structure RInv (s : Nat) (all L : List Rb) : Prop where
  xs : L.map Rb.xs = (all.map Rb.xs).drop (all.length - s)
  sz : ∀ r ∈ L, r.n ≤ 32
theorem RInv.len {s : Nat} {all L : List Rb} (h : RInv s all L) : L.length = all.length - (all.length - s) := by
  have := congrArg List.length h.xs
  simpa using this
theorem RInv.none (s : Nat) : RInv s [] [] := ⟨by simp, fun r hr => by simp at hr⟩
theorem RInv.put {s : Nat} (hs : 1 ≤ s) {all L : List Rb} (h : RInv s all L) {r b : Rb} (hx : r.xs = b.xs) (hn : r.n ≤ 32) : RInv s (all ++ [b]) (ringL s L r) := by
  have hl := h.len
  unfold ringL
  split
  · rename_i hlt
    refine ⟨?_, fun q hq => ?_⟩
    · rw [List.map_drop, List.map_append, h.xs, List.map_append, List.length_append]
      simp only [List.map_cons, List.map_nil, List.length_cons, List.length_nil]
      have e : all.length + (0 + 1) - s = (all.length - s) + 1 := by omega
      rw [e, hx, List.drop_append_of_le_length (by simp; omega)]
      rw [List.drop_drop, List.drop_append_of_le_length (by simp; omega)]
    · have := List.mem_of_mem_drop hq
      rcases List.mem_append.1 this with h1 | h1
      · exact h.sz q h1
      · obtain rfl : q = r := by simpa using h1
        exact hn
  · rename_i hlt
    refine ⟨?_, fun q hq => ?_⟩
    · rw [List.map_append, h.xs, List.map_append, List.length_append]
      simp only [List.map_cons, List.map_nil, List.length_cons, List.length_nil]
      have e : all.length + (0 + 1) - s = 0 := by omega
      have e2 : all.length - s = 0 := by omega
      rw [e, e2, hx]; simp
    · rcases List.mem_append.1 hq with h1 | h1
      · exact h.sz q h1
      · obtain rfl : q = r := by simpa using h1
        exact hn
/-- The ring at g, and the law's own list. -/
structure WrSt (w wr : World) (g : Nat) (vl va : Value) (size next : Int) (L all : List Rb) : Prop where
  rg : RgSt wr w.heap.size g vl size next L
  row : Row wr w.heap.size 30 1 va all.length (all.map Rb.val)
  dis : ∀ k, va.ownBlock = some k → ¬ RgF g vl k
  low : Below w.heap.size w wr
namespace WrSt
variable {w wr w' : World} {g : Nat} {vl va : Value} {size next : Int} {L all : List Rb}
theorem grow (h : WrSt w wr g vl va size next L all) (hb : Below wr.heap.size wr w') : WrSt w w' g vl va size next L all :=
  ⟨h.rg.grow hb, h.row.grow hb, h.dis, h.low.trans (hb.mono h.low.size)⟩
theorem go {next' : Int} {L' : List Rb} (h : WrSt w wr g vl va size next L all) (hg : RgGo wr w.heap.size g vl size next' L' w') : ∃ vl', WrSt w w' g vl' va size next' L' all := by
  obtain ⟨vl', a1, a2, a3⟩ := hg
  refine ⟨vl', a1, h.row.fr a2 h.dis, fun k hk hk' => ?_, h.low.trans (a2.below h.low.size (fun k hk => (h.rg.lt k hk).1))⟩
  rcases a3 k hk' with h1 | h1
  · exact h.dis k hk h1
  · have := (h.row.lt k hk).2; omega
theorem app {w1 : World} {v9 : Value} {b : Rb} {X : Obj} (h : WrSt w wr g vl va size next L all) (hr : Row w1 w.heap.size 30 1 v9 (all.length + 1) (all.map Rb.val ++ [b.val])) (hg : (wr.alloc X).grownBy w1 va.ownBlock) (ho : v9.ownBlock = va.ownBlock ∨ v9.ownBlock = some (wr.heap.size + 1)) : WrSt w w1 g vl v9 size next L (all ++ [b]) := by
  have hfr : Fr (fun k => va.ownBlock = some k) wr w1 := ((Fr.refl _ wr).alloc X).grown hg (fun k e _ => e)
  refine ⟨h.rg.keep hfr (fun k hk e => h.dis k e hk) (fun r hr' k hk e => wr_row_row (h.rg.ent r hr').1 h.row (by decide) k hk e), ?_, fun k hk hk' => ?_, h.low.trans (hfr.below h.low.size (fun k e => (h.row.lt k e).1))⟩
  · rw [List.length_append, List.map_append]; exact hr
  · rcases own_cases ho hk with h5 | h5
    · exact h.dis k h5 hk'
    · have := (h.rg.lt k hk').2; omega
end WrSt
end Go.Proofs.Ytenhcpobncmedaa
