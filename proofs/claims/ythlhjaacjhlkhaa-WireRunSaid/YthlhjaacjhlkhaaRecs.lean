/- Lemmas over any program: a slice of records (or of slices), each element of a fixed number of cells, opened and read. -/
import Derived.Test.YthlhjaacjhlkhaaOpen
import Derived.Deep.Slices
import Derived.Deep.Fields
namespace Go
open Go.ChangeShapes Go.WideShapes Go.ChangeAt Go.RowKit Go.Joins Go.Deep
set_option linter.unusedVariables false
set_option linter.unusedSimpArgs false
section
variable {T : Type} {cl : T → List Value} {s : Nat}
theorem flatR_len (hs : ∀ r, (cl r).length = s) (rs : List T) : (rs.flatMap cl).length = rs.length * s := by
  induction rs with
  | nil => simp
  | cons a rs ih => rw [List.flatMap_cons, List.length_append, ih, hs, List.length_cons, Nat.add_mul]; omega
theorem flatR_at (hs : ∀ r, (cl r).length = s) : ∀ (rs : List T) (i j : Nat) (r : T), rs[i]? = some r → j < s → (rs.flatMap cl)[i * s + j]? = (cl r)[j]?
  | [], i, j, r, h, _ => by simp at h
  | a :: rs, 0, j, r, h, hj => by
    simp only [List.getElem?_cons_zero, Option.some.injEq] at h
    subst h
    rw [List.flatMap_cons, List.getElem?_append_left (by rw [hs]; omega)]
    simp
  | a :: rs, i + 1, j, r, h, hj => by
    simp only [List.getElem?_cons_succ] at h
    rw [List.flatMap_cons, List.getElem?_append_right (by rw [hs, Nat.add_mul]; omega), ← flatR_at hs rs i j r h hj, hs]
    congr 1
    rw [Nat.add_mul]; omega
theorem flatR_cells (hs : ∀ r, (cl r).length = s) (h0 : 0 < s) (f : Nat → T) (n j : Nat) (u : Value) (h : (((List.range n).map f).flatMap cl)[j]? = some u) : j / s < n ∧ (cl (f (j / s)))[j % s]? = some u := by
  have hj : j < n * s := by
    rcases Nat.lt_or_ge j (n * s) with h' | h'
    · exact h'
    · rw [List.getElem?_eq_none (by rw [flatR_len hs]; simpa using h')] at h; cases h
  have hq : j / s < n := Nat.div_lt_of_lt_mul (by rw [Nat.mul_comm]; exact hj)
  refine ⟨hq, ?_⟩
  have := flatR_at hs ((List.range n).map f) (j / s) (j % s) (f (j / s)) (by simp [hq]) (Nat.mod_lt _ h0)
  rw [← this, ← h]
  congr 1
  rw [Nat.mul_comm]; exact Nat.div_add_mod j s
/-- A slice of records that reads as rs, below block B. -/
def RS (cl : T → List Value) (s : Nat) (w : World) (B : Nat) (A : Option Addr) (n : Nat) (rs : List T) : Prop := Reads w B s A n (rs.flatMap cl) ∧ rs.length = n
theorem RS.below' {w w' : World} {B B' n : Nat} {A : Option Addr} {rs : List T} (h : RS cl s w B A n rs) (hb : Below B' w w') (hB : B ≤ B') : RS cl s w' B A n rs := ⟨h.1.below' hb hB, h.2⟩
theorem RS.more {w : World} {B B' n : Nat} {A : Option Addr} {rs : List T} (h : RS cl s w B A n rs) (hB : B ≤ B') : RS cl s w B' A n rs := ⟨h.1.more hB, h.2⟩
theorem RS.at_ {w : World} {B n i : Nat} {A : Option Addr} {rs : List T} (hs : ∀ r, (cl r).length = s) (z : T) (h : RS cl s w B A n rs) (hi : i < n) :
    ∃ b o, A = some ⟨b, o, none⟩ ∧ b < B ∧ rs.getD i z ∈ rs ∧ ∀ j u, (cl (rs.getD i z))[j]? = some u → w.cell? ⟨b, o + i * s + j, none⟩ = some u := by
  obtain ⟨b, o, e, hb, hc⟩ := h.1.2 (by omega)
  have hl : i < rs.length := by rw [h.2]; exact hi
  have e1 : rs.getD i z = rs[i] := by simp [List.getD, List.getElem?_eq_getElem hl]
  have e2 : rs[i]? = some (rs.getD i z) := by rw [e1]; exact List.getElem?_eq_getElem hl
  refine ⟨b, o, e, hb, by rw [e1]; exact List.getElem_mem hl, fun j u hu => ?_⟩
  have hj : j < s := by
    rcases Nat.lt_or_ge j s with h' | h'
    · exact h'
    · rw [List.getElem?_eq_none (by rw [hs]; exact h')] at hu; cases hu
  rw [Nat.add_assoc]
  exact hc (i * s + j) u ((flatR_at hs rs i j _ e2 hj).trans hu)
end
section
variable {H : Type} {enc : TypeId × Value → H} {P : Program} {w : World} {base : Nat} {held : Bool}
/-- A slice of records, opened; 'ok' is what each element's reading gives. -/
theorem open_recs {T : Type} (z : T) {cl : T → List Value} {s : Nat} (hs : ∀ r, (cl r).length = s) (h0 : 0 < s) (ok : T → Prop) {t e : TypeId} {fuel : Nat} {v : Value} {x : DataW H × List MemPlace}
    (ht : P.underlying t = some (.slice e)) (hC : P.cellsOf e = s)
    (hel : ∀ (fu : Nat) (cs : List Value) (y : DataW H × List MemPlace), DataW.trod enc P w base (fun _ => true) held fu e cs = some y → cs.length = s → ∃ r : T, cs = cl r ∧ ok r)
    (h : DataW.trod enc P w base (fun _ => true) held fuel t [v] = some x) :
    ∃ A n c rs, v = .slice A n c ∧ RS cl s w w.heap.size A n rs ∧ (∀ r ∈ rs, ok r) ∧ n ≤ c ∧ c ≤ maxLen ∧ (∀ R, (∀ m ∈ x.1.weights P t, m ≤ R) → n * P.bytesOf e ≤ R) := by
  rcases open_slice ht h with ⟨hcs, rfl⟩ | ⟨a, len, cap, m, n, D, Pl, hcs, _, hl, hm, hmm, rfl, hi⟩
  · simp at hcs
    exact ⟨none, 0, 0, [], hcs, ⟨Reads.none_, rfl⟩, fun r hr => by simp at hr, Nat.le_refl _, by simp, fun R _ => by simp⟩
  · simp at hcs
    simp only [if_true] at hmm
    subst hmm
    rw [hC] at hi
    have hch : ∀ i, ∃ r : T, i < len → ok r ∧ ∀ j, j < s → w.cell? ((a.add (i * s)).add j) = (cl r)[j]? := by
      intro i
      by_cases hil : i < len
      · obtain ⟨cs', hc, ht'⟩ := hi i (by omega)
        obtain ⟨r, rfl, hr⟩ := hel _ _ _ ht' (World.cells?_some hc).2.1
        exact ⟨r, fun _ => ⟨hr, (World.cells?_some hc).2.2⟩⟩
      · exact ⟨z, fun h => absurd h hil⟩
    obtain ⟨f, hf⟩ := Classical.axiomOfChoice hch
    refine ⟨some a, len, m, (List.range len).map f, hcs, ⟨⟨by rw [flatR_len hs]; simp, fun hn => ?_⟩, by simp⟩, fun r hr => ?_, hl, hm, fun R hR => ?_⟩
    · have hc0 := (hf 0 hn).2 0 h0
      have hcl0 : (cl (f 0))[0]? = some ((cl (f 0))[0]'(by rw [hs]; exact h0)) := List.getElem?_eq_getElem _
      obtain ⟨b, o, sp⟩ := a
      have hsp : sp = none := by simpa [Addr.add] using World.cell?_spot (hc0.trans hcl0)
      subst hsp
      have hlt : b < w.heap.size := World.block_lt_of_cell? w _ (by have := hc0.trans hcl0; rw [add_plain, add_plain] at this; exact this)
      refine ⟨b, o, rfl, hlt, fun j u hu => ?_⟩
      obtain ⟨hq, hu'⟩ := flatR_cells hs h0 f len j u hu
      have := (hf (j / s) hq).2 (j % s) (Nat.mod_lt _ h0)
      rw [add_plain, add_plain] at this
      rw [← hu', ← this]
      congr 2
      have := Nat.div_add_mod j s
      rw [Nat.mul_comm] at this
      omega
    · obtain ⟨i, hi', rfl⟩ := List.mem_map.1 hr
      exact (hf i (by simpa using hi')).1
    · have := hR _ (by simp only [DataW.weights, ht]; exact List.mem_cons_self)
      refine Nat.le_trans (Nat.mul_le_mul_right _ ?_) this
      simp
      try omega
theorem one_int {k : IntKind} {n : Nat} {t : TypeId} {v : Value} {y : DataW H × List MemPlace} (ht : P.underlying t = some (.int k)) (h : DataW.trod enc P w base (fun _ => true) held n t [v] = some y) : ∃ x, v = .int k x ∧ (Lit.int k x).wf = true := by
  obtain ⟨x, e, _, hw⟩ := DataW.trod_int ht h
  simp at e
  exact ⟨x, e, hw⟩
/-- The fields of a struct of one-cell fields. -/
theorem struct_fields {e : TypeId} {fs : Array Field} {fuel : Nat} {cs : List Value} {x : DataW H × List MemPlace} (he : P.underlying e = some (.struct fs)) (hone : oneCellFields P fs = true)
    (h : DataW.trod enc P w base (fun _ => true) held fuel e cs = some x) : ∃ n, ∀ (j : Nat) (f : Field) (v : Value), fs[j]? = some f → cs[j]? = some v → ∃ y, DataW.trod enc P w base (fun _ => true) held n f.type [v] = some y := by
  obtain ⟨ys, n, _, _, hl, hyl, hf⟩ := DataW.trod_struct he h
  refine ⟨n, fun j f v hj hv => ?_⟩
  obtain ⟨ho, hk⟩ := hone_of hone j f hj
  have h1 := hf j f hj
  rw [ho, hk] at h1
  have hjl : j < cs.length := (List.getElem?_eq_some_iff.1 hv).1
  have hone' : (cs.drop j).take 1 = [v] := by
    rw [List.drop_eq_getElem_cons hjl]
    have : cs[j] = v := by rw [List.getElem?_eq_getElem hjl] at hv; simpa using hv
    simp [this]
  rw [hone'] at h1
  cases hy : ys[j]? with
  | none =>
    have : j < fs.size := (Array.getElem?_eq_some_iff.1 hj).1
    rw [List.getElem?_eq_getElem (by omega)] at hy; cases hy
  | some y => rw [hy] at h1; exact ⟨_, h1⟩
end
end Go
