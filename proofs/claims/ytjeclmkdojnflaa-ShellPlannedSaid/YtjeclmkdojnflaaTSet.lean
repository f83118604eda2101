/- Over any program: a map[int]bool of the call's own, all of whose elements are true: a set of integers with its size, and a range over it. -/
import Derived.Test.YtjeclmkdojnflaaMapF
import Derived.Maps.RangeWalk
namespace Go
open Go.RowKit Go.Maps
set_option linter.unusedVariables false
set_option linter.unusedSimpArgs false
def TSet (P : Program) (w : World) (k e : TypeId) (b n : Nat) (S : Int → Bool) (m : Nat) : Prop :=
  ∃ D : DataW Unit, w.ownsMap P k (plainElem P e) b n D ∧ Tidy D ∧ size D = m ∧ ∀ x : Int, D.atKey (.int .i64 x) (.lit (.bool false)) = .lit (.bool (S x)) ∧ has D (.int .i64 x) = S x
/-- A range over it, under way. -/
def TRng (P : Program) (w : World) (k e : TypeId) (b r n : Nat) (S : Int → Bool) (m : Nat) (left : Int → Bool) (cnt : Nat) : Prop :=
  ∃ (D : DataW Unit) (L : Lit → Bool), w.ranges P k (plainElem P e) b r n D L cnt ∧ Tidy D ∧ size D = m ∧ (∀ x : Int, D.atKey (.int .i64 x) (.lit (.bool false)) = .lit (.bool (S x)) ∧ has D (.int .i64 x) = S x) ∧ ∀ x : Int, L (.int .i64 x) = left x ∧ (left x = true → S x = true)
namespace TSet
variable {P : Program} {w w' : World} {k e : TypeId} {b n m : Nat} {S : Int → Bool}
theorem made (P : Program) (w : World) (k e : TypeId) : TSet P (w.alloc (.map #[] 0)) k e w.heap.size 0 (fun _ => false) 0 :=
  ⟨.map [], World.ownsMap_made w P k _, tidy_empty, rfl, fun x => ⟨by simp [DataW.atKey], rfl⟩⟩
theorem fr {F : Nat → Prop} (h : TSet P w k e b n S m) (hf : Fr F w w') (hn : ¬ F b) : TSet P w' k e b n S m := by
  obtain ⟨D, ⟨es, c, h1, h4⟩, h2, h3⟩ := h
  exact ⟨D, ⟨es, c, (hf.block b (lt_blk h1) hn).trans h1, h4⟩, h2, h3⟩
theorem grow (h : TSet P w k e b n S m) (hb : Below w.heap.size w w') : TSet P w' k e b n S m := h.fr (Fr.of_grow hb) (fun h => h)
theorem lt (h : TSet P w k e b n S m) : b < w.heap.size := by
  obtain ⟨D, h1, _⟩ := h
  exact h1.lt
theorem isMapBlock (h : TSet P w k e b n S m) : ∃ es c, w.heap[b]? = some (.map es c) := by
  obtain ⟨D, ⟨es, c, h1, h4⟩, _⟩ := h
  exact ⟨es, c, h1⟩
theorem mono {n' : Nat} (h : TSet P w k e b n S m) (hn : n ≤ n') : TSet P w k e b n' S m := by
  obtain ⟨D, h1, h2⟩ := h
  exact ⟨D, h1.mono hn, h2⟩
theorem run_lookup (h : TSet P w k e b n S m) {t : TypeId} (hk : P.underlying k = some (.int .i64)) (he : P.underlying e = some .bool) (ht : P.underlying t = some (.map k e)) (hz : (zeroValue e).run P w = .ok (.bool false) w) {x : Int} (hx : (Lit.int .i64 x).wf = true) :
    (Instr.lookup t (.map (some b)) (.int .i64 x) false).run P w = .ok (.bool (S x)) w := by
  obtain ⟨D, h1, h2, h3, h4⟩ := h
  obtain ⟨v, ps, hrun, hv⟩ := h1.lookup (int_keyed hk) ht hz (plainElem_bool he false) (keyOf_int_mk hk hx)
  rw [(h4 x).1] at hv
  rw [hrun, plainElem_bool_inv he hv]
theorem update (h : TSet P w k e b n S m) {t : TypeId} (hk : P.underlying k = some (.int .i64)) (he : P.underlying e = some .bool) (ht : P.underlying t = some (.map k e)) (hn : n < maxLen) {x : Int} (hx : (Lit.int .i64 x).wf = true) :
    ∃ w', (Instr.mapUpdate t (.map (some b)) (.int .i64 x) (.bool true)).run P w = .ok () w' ∧ TSet P w' k e b (n + 1) (fun z => if z = x then true else S z) (if S x then m else m + 1) ∧ w.grownBy w' (some b) := by
  obtain ⟨D, h1, h2, h3, h4⟩ := h
  obtain ⟨w', hrun, r1, r2⟩ := h1.update (int_keyed hk) ht hn (keyOf_int_mk hk hx) (plainElem_bool he true)
  refine ⟨w', hrun, ⟨_, r1, r1.tidy (int_keyed hk), by rw [size_put h2, (h4 x).2, h3], fun z => ?_⟩, r2⟩
  by_cases hz : z = x
  · subst hz
    rw [atKey_put_same h1.isMap (by trivial), has_put_same h1.isMap (by trivial)]; simp
  · rw [atKey_put_other (by intro e; injection e with _ e; exact hz e), has_put_other (by intro e; injection e with _ e; exact hz e), (h4 z).1, (h4 z).2]; simp [hz]
theorem delete (h : TSet P w k e b n S m) {t : TypeId} (hk : P.underlying k = some (.int .i64)) (ht : P.underlying t = some (.map k e)) {x : Int} (hx : (Lit.int .i64 x).wf = true) :
    ∃ w', (∀ ty, (Builtin.delete_ #[t, k] ty #[.map (some b), .int .i64 x]).run P w = .ok (.tuple #[]) w') ∧ TSet P w' k e b n (fun z => if z = x then false else S z) (if S x then m - 1 else m) ∧ w.grownBy w' (some b) := by
  obtain ⟨D, h1, h2, h3, h4⟩ := h
  obtain ⟨w', hrun, r1, r2⟩ := h1.drop (int_keyed hk) ht (keyOf_int_mk hk hx) 0
  refine ⟨w', fun ty => hrun, ⟨_, r1, r1.tidy (int_keyed hk), ?_, fun z => ?_⟩, r2.grown⟩
  · have := size_del (k := .int .i64 x) h2
    rw [(h4 x).2, h3] at this
    split at this <;> simp_all <;> omega
  · by_cases hz : z = x
    · subst hz
      refine ⟨?_, by rw [has_del_same]; simp⟩
      rw [atKey_del_same]; simp
    · rw [has_del_other (by intro e; injection e with _ e; exact hz e), atKey_del_other (by intro e; injection e with _ e; exact hz e), (h4 z).1, (h4 z).2]; simp [hz]
theorem len (h : TSet P w k e b n S m) {t : TypeId} (ht : P.underlying t = some (.map k e)) : ∀ ty, (Builtin.len_ #[t] ty #[.map (some b)]).run P w = .ok (.int .i64 m) w := by
  obtain ⟨D, h1, h2, h3, h4⟩ := h
  intro ty
  rw [h1.len ht ty, h3]
theorem range (h : TSet P w k e b n S m) {t : TypeId} (hk : P.underlying k = some (.int .i64)) (ht : P.underlying t = some (.map k e)) :
    ∃ w', (Instr.range t (.map (some b))).run P w = .ok (.pointer (some ⟨w.heap.size, 0, none⟩)) w' ∧ TRng P w' k e b w.heap.size n S m S m ∧ w.grownBy w' none ∧ w'.heap.size = w.heap.size + 1 := by
  obtain ⟨D, h1, h2, h3, h4⟩ := h
  obtain ⟨w', hrun, hr, hg, hs⟩ := h1.range (int_keyed hk) ht
  rw [h3] at hr
  exact ⟨w', hrun, ⟨D, has D, hr, h2, h3, h4, fun x => ⟨(h4 x).2, id⟩⟩, hg, hs⟩
end TSet
namespace TRng
variable {P : Program} {w w' : World} {k e : TypeId} {b r n m cnt : Nat} {S left : Int → Bool}
theorem set (h : TRng P w k e b r n S m left cnt) : TSet P w k e b n S m := by
  obtain ⟨D, L, h1, h2, h3, h4, _⟩ := h
  exact ⟨D, h1.owns, h2, h3, h4⟩
theorem kept {row : Option Nat} (h : TRng P w k e b r n S m left cnt) (hg : w.grownBy w' row) (hb : some b ≠ row) (hr : some r ≠ row) : TRng P w' k e b r n S m left cnt := by
  obtain ⟨D, L, h1, h2⟩ := h
  exact ⟨D, L, h1.kept hg hb hr, h2⟩
theorem lt (h : TRng P w k e b r n S m left cnt) : r < w.heap.size := by
  obtain ⟨D, L, h1, h2⟩ := h
  exact h1.lt
theorem left_eq (h : TRng P w k e b r n S m left cnt) : w.rangeLeft b r = cnt := by
  obtain ⟨D, L, h1, h2⟩ := h
  exact h1.left_eq
theorem next (h : TRng P w k e b r n S m left cnt) (hk : P.underlying k = some (.int .i64)) (he : P.underlying e = some .bool) (ty : TypeId) :
    ((∀ x, left x = false) ∧ (Instr.next (.pointer (some ⟨r, 0, none⟩)) false ty).run P w = .ok (.tuple #[.bool false]) w) ∨
    ∃ x w' cnt', (Lit.int .i64 x).wf = true ∧ left x = true ∧ S x = true ∧ (Instr.next (.pointer (some ⟨r, 0, none⟩)) false ty).run P w = .ok (.tuple #[.bool true, .int .i64 x, .bool true]) w' ∧
      TRng P w' k e b r n S m (fun z => if z = x then false else left z) cnt' ∧ cnt' < cnt ∧ w.grownBy w' (some r) ∧ w'.heap.size = w.heap.size ∧ (Instr.entry (.pointer (some ⟨r, 0, none⟩))).run P w' = .ok (.tuple #[.int .i64 x, .bool true]) w' := by
  obtain ⟨D, L, h1, h2, h3, h4, h5⟩ := h
  rcases h1.next (int_keyed hk) ty with ⟨_, hl, hrun⟩ | ⟨key, v, kl, y, w', cnt', hkey, hl, hv, hat, hrun, hr, hlt, hg, hs, hen⟩
  · exact .inl ⟨fun x => by rw [← (h5 x).1, hl], hrun⟩
  · obtain ⟨x, rfl, rfl, hwf⟩ := keyOf_int_inv hk hkey
    have hlx : left x = true := by rw [← (h5 x).1, hl]
    have hsx := (h5 x).2 hlx
    have hy : y.1 = .lit (.bool true) := by rw [← hat (.lit (.bool false)), (h4 x).1, hsx]
    obtain ⟨y1, y2⟩ := y
    dsimp only at hy
    subst hy
    have hv' := plainElem_bool_inv he hv
    subst hv'
    refine .inr ⟨x, w', cnt', hwf, hlx, hsx, hrun, ⟨D, _, hr, h2, h3, h4, fun z => ⟨?_, fun hz => ?_⟩⟩, hlt, hg, hs, hen⟩
    · by_cases hz : z = x
      · subst hz; simp [Lit.sameKey]
      · simp [Lit.sameKey, hz, (h5 z).1]
    · by_cases hz' : z = x
      · simp [hz'] at hz
      · simp [hz'] at hz; exact (h5 z).2 hz
end TRng
end Go
