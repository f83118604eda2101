/- Over any program: a map[int]bool of the call's own as a set of integers: update, delete, len. -/
import Derived.Test.YtmfalafolpfhiaaMapF
namespace Go
open Go.RowKit Go.Maps
set_option linter.unusedVariables false
set_option linter.unusedSimpArgs false
/-- Block b is a set of integers of the call's own. -/
def IntSet (P : Program) (w : World) (k e : TypeId) (b n : Nat) (S : Int → Bool) : Prop :=
  ∃ D : DataW Unit, w.ownsMap P k (plainElem P e) b n D ∧ (∃ es, D = .map es ∧ ∀ p ∈ es, ∃ x : Int, p.1 = .int .i64 x) ∧ ∀ x : Int, has D (.int .i64 x) = S x
namespace IntSet
variable {P : Program} {w w' : World} {k e : TypeId} {b n : Nat} {S : Int → Bool}
theorem made (P : Program) (w : World) (k e : TypeId) : IntSet P (w.alloc (.map #[] 0)) k e w.heap.size 0 (fun _ => false) :=
  ⟨.map [], World.ownsMap_made w P k _, ⟨[], rfl, fun p hp => by simp at hp⟩, fun x => rfl⟩
theorem fr {F : Nat → Prop} (h : IntSet P w k e b n S) (hf : Fr F w w') (hn : ¬ F b) : IntSet P w' k e b n S := by
  obtain ⟨D, ⟨es, c, h1, h4⟩, h2, h3⟩ := h
  exact ⟨D, ⟨es, c, (hf.block b (lt_blk h1) hn).trans h1, h4⟩, h2, h3⟩
theorem grow (h : IntSet P w k e b n S) (hb : Below w.heap.size w w') : IntSet P w' k e b n S := h.fr (Fr.of_grow hb) (fun h => h)
theorem alloc (h : IntSet P w k e b n S) (o : Obj) : IntSet P (w.alloc o) k e b n S := h.fr ((Fr.refl Nil w).alloc o) (fun h => h)
theorem lt (h : IntSet P w k e b n S) : b < w.heap.size := by
  obtain ⟨D, h1, _⟩ := h
  exact h1.lt
theorem update (h : IntSet P w k e b n S) {t : TypeId} (hk : P.underlying k = some (.int .i64)) (he : P.underlying e = some .bool) (ht : P.underlying t = some (.map k e)) (hn : n < maxLen) {x : Int} (hx : (Lit.int .i64 x).wf = true) :
    ∃ w', (Instr.mapUpdate t (.map (some b)) (.int .i64 x) (.bool true)).run P w = .ok () w' ∧ IntSet P w' k e b (n + 1) (fun z => if z = x then true else S z) ∧ w.grownBy w' (some b) := by
  obtain ⟨D, h1, ⟨es, he1, he2⟩, h3⟩ := h
  obtain ⟨w', hrun, r1, r2⟩ := h1.update (int_keyed hk) ht hn (keyOf_int_mk hk hx) (plainElem_bool he true)
  have hm : IsMap D := ⟨es, he1⟩
  refine ⟨w', hrun, ⟨_, r1, ⟨ChangeMaps.putKey (.int .i64 x) (.lit (.bool true)) es, by rw [he1, DataW.put_eq], fun p hp => ?_⟩, fun z => ?_⟩, r2⟩
  · rcases ChangeMaps.mem_insert_iff.1 hp with rfl | hp
    · exact ⟨x, rfl⟩
    · exact he2 p (List.mem_filter.1 hp).1
  · by_cases hz : z = x
    · subst hz
      rw [has_put_same hm (by trivial)]; simp
    · rw [has_put_other (by intro e; injection e with _ e; exact hz e), h3 z]; simp [hz]
theorem delete (h : IntSet P w k e b n S) {t : TypeId} (hk : P.underlying k = some (.int .i64)) (ht : P.underlying t = some (.map k e)) {x : Int} (hx : (Lit.int .i64 x).wf = true) :
    ∃ w', (∀ ty, (Builtin.delete_ #[t, k] ty #[.map (some b), .int .i64 x]).run P w = .ok (.tuple #[]) w') ∧ IntSet P w' k e b n (fun z => if z = x then false else S z) ∧ w.grownBy w' (some b) := by
  obtain ⟨D, h1, ⟨es, he1, he2⟩, h3⟩ := h
  obtain ⟨w', hrun, r1, r2⟩ := h1.drop (int_keyed hk) ht (keyOf_int_mk hk hx) 0
  have hm : IsMap D := ⟨es, he1⟩
  refine ⟨w', fun ty => ?_, ⟨_, r1, ⟨ChangeMaps.delKey (.int .i64 x) es, by rw [he1, DataW.del_eq], fun p hp => he2 p (List.mem_filter.1 hp).1⟩, fun z => ?_⟩, ?_⟩
  · exact hrun
  · by_cases hz : z = x
    · subst hz
      rw [has_del_same]; simp
    · rw [has_del_other (by intro e; injection e with _ e; exact hz e), h3 z]; simp [hz]
  · exact r2.grown
theorem len (h : IntSet P w k e b n S) {t : TypeId} (ht : P.underlying t = some (.map k e)) : ∃ m : Nat, (∀ ty, (Builtin.len_ #[t] ty #[.map (some b)]).run P w = .ok (.int .i64 m) w) ∧ (0 < m ↔ ∃ x, S x = true) := by
  obtain ⟨D, h1, ⟨es, he1, he2⟩, h3⟩ := h
  refine ⟨size D, fun ty => h1.len ht ty, ?_⟩
  subst he1
  rw [size_eq]
  constructor
  · intro hp
    obtain ⟨p, hp⟩ := List.exists_mem_of_length_pos hp
    obtain ⟨x, hx⟩ := he2 p hp
    refine ⟨x, ?_⟩
    rw [← h3 x, has_eq, List.any_eq_true]
    exact ⟨p, hp, by rw [hx]; simp [Lit.sameKey]⟩
  · rintro ⟨x, hx⟩
    rw [← h3 x, has_eq, List.any_eq_true] at hx
    obtain ⟨p, hp, _⟩ := hx
    exact List.length_pos_of_mem hp
end IntSet
end Go
