/- What a file is, plain; the field of an image. -/
import Derived.Test.YtdgjcjhdclihpaaDoorLdC
namespace Go.Proofs.YtdgjcjhdclihpaaDoor
open Go.RowKit
set_option maxHeartbeats 400000
set_option linter.unusedVariables false
set_option linter.unusedSimpArgs false
def FilePost (e : Int) (gs : List Pg) (w : World) (er : Ending) (w' : World) : Prop :=
  ∃ A n c bs x, er = .returned (.tuple #[.slice A n c, .int .i64 x]) ∧ FileIs e gs bs x ∧ RB w' w'.heap.size A n bs ∧ Below w.heap.size w w'
theorem FilePost.bad {e x : Int} {gs : List Pg} {w w' : World} (hx : ErrIs e gs x) (h0 : x ≠ 0) (hb : Below w.heap.size w w') : FilePost e gs w (.returned (.tuple #[.slice none 0 0, .int .i64 x])) w' :=
  ⟨none, 0, 0, [], x, rfl, ⟨x, hx, .inl ⟨h0, rfl, rfl⟩⟩, ⟨Reads.none_, fun y hy => by cases hy⟩, hb⟩
/-- What the first pages come to. -/
def xsJ (e : Int) (n : Nat) (gs : List Pg) (j : Nat) : List Int := headS e n ++ (gs.take j).flatMap (fun g => pageS g.key)
theorem xsJ_all {e : Int} {n : Nat} {gs gs' : List Pg} (h : gs'.map Pg.key = gs.map Pg.keyT) (hn : gs.length = n) : xsJ e n gs' n = bodyS e (gs.map Pg.keyT) := by
  have hl : gs'.length = n := by have := congrArg List.length h; simpa [hn] using this
  unfold xsJ bodyS
  rw [List.take_of_length_le (by omega), ← h, List.flatMap_map, List.length_map, hl]
theorem xsJ_next {e : Int} {n j : Nat} {gs : List Pg} (h : j < gs.length) : xsJ e n gs (j + 1) = xsJ e n gs j ++ pageS (gs.getD j Pg.zero).key := by
  have e1 : gs.getD j Pg.zero = gs[j] := by simp [List.getD, List.getElem?_eq_getElem h]
  unfold xsJ
  rw [List.take_succ_eq_append_getElem h, List.flatMap_append, e1]
  simp
theorem key_of {gs gs' : List Pg} (h : gs'.map Pg.key = gs.map Pg.keyT) {j : Nat} (hj : j < gs.length) : (gs'.getD j Pg.zero).key = (gs.getD j Pg.zero).keyT := by
  have hl : gs'.length = gs.length := by have := congrArg List.length h; simpa using this
  have h1 : (gs'.map Pg.key)[j]? = (gs.map Pg.keyT)[j]? := by rw [h]
  rw [List.getElem?_map, List.getElem?_map, List.getElem?_eq_getElem hj, List.getElem?_eq_getElem (by omega : j < gs'.length)] at h1
  simp only [Option.map_some, Option.some.injEq] at h1
  simp [List.getD, List.getElem?_eq_getElem hj, List.getElem?_eq_getElem (by omega : j < gs'.length), h1]
/-- What a page without error may say. -/
theorem page_ok {e : Int} {gs gs' : List Pg} (hx : ErrIs e gs 0) (h : gs'.map Pg.key = gs.map Pg.keyT) (hn : ∀ g ∈ gs, g.xs.length = g.n) {j : Nat} (hj : j < gs.length) :
    0 ≤ (gs'.getD j Pg.zero).p ∧ (gs'.getD j Pg.zero).p ≤ 63 ∧ 1 ≤ (gs'.getD j Pg.zero).r ∧ (gs'.getD j Pg.zero).r ≤ 5 ∧ (gs'.getD j Pg.zero).xs.length ≤ 16 := by
  have hk := key_of h hj
  have h1 := hx.pages.2 j hj
  have h2 := (hx.zero_ok).2 j hj
  unfold Pg.key Pg.keyT at hk
  injection hk with k1 k2
  injection k2 with k2 k3
  have e1 : gs.getD j Pg.zero = gs[j] := by simp [List.getD, List.getElem?_eq_getElem hj]
  have h3 := hn _ (show gs.getD j Pg.zero ∈ gs by rw [e1]; exact List.getElem_mem hj)
  unfold okPg pgOk at h2
  rw [k1, k2, k3]
  have h4 : (trim (gs.getD j Pg.zero).xs).length ≤ (gs.getD j Pg.zero).n := by rw [trim_len]; have := tn_le (gs.getD j Pg.zero).xs (gs.getD j Pg.zero).xs.length; omega
  refine ⟨h1.1, h1.2, h2.2.2.1, h2.2.2.2.1, by omega⟩
theorem headS_byt {e : Int} {n : Nat} : Byt (headS e n) := by
  unfold headS
  refine Byt.append ?_ (four_byt e)
  intro x hx
  simp at hx
  rcases hx with rfl | rfl | rfl | rfl <;> omega
theorem pageS_byt {k : Key} (h : Byt k.2.2) : Byt (pageS k) := by
  unfold pageS
  refine Byt.append ?_ h
  intro x hx
  simp at hx
  rcases hx with rfl | rfl | rfl <;> omega
theorem xsJ_byt {e : Int} {n j : Nat} {gs : List Pg} (h : ∀ g ∈ gs, Byt g.xs) : Byt (xsJ e n gs j) := by
  unfold xsJ
  refine Byt.append headS_byt fun x hx => ?_
  obtain ⟨g, hg, hx⟩ := List.mem_flatMap.1 hx
  exact pageS_byt (k := g.key) (h g (List.mem_of_mem_take hg)) x hx
theorem run_field25 (w : World) (e v : Value) : (Instr.field 25 (.agg #[e, v]) 1).run Tryd.prog w = .ok v w := by
  have h25 := Tryd.underlying25
  simp [Instr.field, asAgg, go_sem, h25]
end Go.Proofs.YtdgjcjhdclihpaaDoor
