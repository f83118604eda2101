/- Over any program: maps of the call's own as functions of their keys: a set of texts (map[string]bool, true alone is put), and a map of integers. -/
import Derived.Maps.OwnSet
import Derived.Maps.OwnOps
import Derived.Test.YtmoanemhjcdjkaaOwn
namespace Go
open Go.RowKit Go.Maps
set_option linter.unusedVariables false
set_option linter.unusedSimpArgs false
theorem plainElem_bool_inv {H : Type} {P : Program} {e : TypeId} (he : P.underlying e = some .bool) {v : Value} {x : Bool} {ps : List MemPlace} (h : plainElem (H := H) P e v = some (.lit (.bool x), ps)) : v = .bool x := by
  unfold plainElem at h
  rw [he] at h
  cases v <;> simp at h
  rw [h.1]
/-- Block b is a set of texts of the call's own: a map[string]bool, true at each text of l, and nowhere else. -/
def TextSet (P : Program) (w : World) (k e : TypeId) (b n : Nat) (l : List (List UInt8)) : Prop :=
  ∃ D : DataW Unit, w.ownsMap P k (plainElem P e) b n D ∧ IsMap D ∧ ∀ s : List UInt8, D.atKey (.string s) (.lit (.bool false)) = .lit (.bool (l.contains s))
namespace TextSet
variable {P : Program} {w w' : World} {k e : TypeId} {b n : Nat} {l : List (List UInt8)}
theorem made (P : Program) (w : World) (k e : TypeId) : TextSet P (w.alloc (.map #[] 0)) k e w.heap.size 0 [] := by
  refine ⟨.map [], World.ownsMap_made w P k _, isMap_empty, fun s => ?_⟩
  simp [DataW.atKey]
theorem kept {row : Option Nat} (h : TextSet P w k e b n l) (hg : w.grownBy w' row) (hne : some b ≠ row) : TextSet P w' k e b n l := by
  obtain ⟨D, h1, h2, h3⟩ := h
  exact ⟨D, h1.kept hg hne, h2, h3⟩
theorem fr {S : Nat → Prop} (h : TextSet P w k e b n l) (hf : Fr S w w') (hn : ¬ S b) : TextSet P w' k e b n l := by
  obtain ⟨D, ⟨es, c, h1, h4⟩, h2, h3⟩ := h
  exact ⟨D, ⟨es, c, (hf.block b (lt_blk h1) hn).trans h1, h4⟩, h2, h3⟩
theorem grow (h : TextSet P w k e b n l) (hb : Below w.heap.size w w') : TextSet P w' k e b n l := h.fr (Fr.of_grow hb) (fun h => h)
theorem alloc (h : TextSet P w k e b n l) (o : Obj) : TextSet P (w.alloc o) k e b n l := h.fr ((Fr.refl Nil w).alloc o) (fun h => h)
theorem drew (h : TextSet P w k e b n l) : TextSet P w.drew k e b n l := h
theorem drewN (h : TextSet P w k e b n l) (m : Nat) : TextSet P (w.drewN m) k e b n l := by
  obtain ⟨D, ⟨es, c, h1, h4⟩, h2, h3⟩ := h
  exact ⟨D, ⟨es, c, h1, h4⟩, h2, h3⟩
theorem lt (h : TextSet P w k e b n l) : b < w.heap.size := by
  obtain ⟨D, h1, _⟩ := h
  exact h1.lt
theorem run_lookup (h : TextSet P w k e b n l) {t : TypeId} (hk : P.underlying k = some .string) (he : P.underlying e = some .bool) (ht : P.underlying t = some (.map k e)) (hz : (zeroValue e).run P w = .ok (.bool false) w) {s : ByteArray} (hs : s.size ≤ maxLen) :
    (Instr.lookup t (.map (some b)) (.string s) false).run P w = .ok (.bool (l.contains s.data.toList)) w := by
  obtain ⟨D, h1, h2, h3⟩ := h
  obtain ⟨v, ps, hrun, hv⟩ := h1.lookup (string_keyed hk) ht hz (plainElem_bool he false) (WideMaps.keyOf_string_mk hk hs)
  rw [h3] at hv
  rw [hrun, plainElem_bool_inv he hv]
theorem update (h : TextSet P w k e b n l) {t : TypeId} (hk : P.underlying k = some .string) (he : P.underlying e = some .bool) (ht : P.underlying t = some (.map k e)) (hn : n < maxLen) {s : ByteArray} (hs : s.size ≤ maxLen) :
    ∃ w', (Instr.mapUpdate t (.map (some b)) (.string s) (.bool true)).run P w = .ok () w' ∧ TextSet P w' k e b (n + 1) (l ++ [s.data.toList]) ∧ w.grownBy w' (some b) := by
  obtain ⟨D, h1, h2, h3⟩ := h
  obtain ⟨w', hrun, r1, r2⟩ := h1.update (string_keyed hk) ht hn (WideMaps.keyOf_string_mk hk hs) (plainElem_bool he true)
  refine ⟨w', hrun, ⟨_, r1, h2.put _ _, fun x => ?_⟩, r2⟩
  by_cases hx : x = s.data.toList
  · subst hx
    rw [atKey_put_same h2 (by trivial)]
    simp
  · rw [atKey_put_other (by intro e; injection e with e; exact hx e), h3]
    simp [hx]
end TextSet
section
variable {P : Program} (w : World) {ops : Array Oper} {rest : List Oper} {o : Oper} {a : Act} {Q : Exit → Act → World → Prop}
theorem wpList_lookup_set (hg : o.guard = none) (m x : Operand) (t : TypeId) (hop : o.op = Op.lookup t m x false) (k e : TypeId) (hk : P.underlying k = some .string) (he : P.underlying e = some .bool) (ht : P.underlying t = some (.map k e)) (hz : (zeroValue e).run P w = .ok (.bool false) w)
    (b n : Nat) (l : List (List UInt8)) (hm : a.eval m = .map (some b)) (hown : TextSet P w k e b n l) (s : ByteArray) (hx : a.eval x = .string s) (hs : s.size ≤ maxLen)
    (c : Bool) (hc : l.contains s.data.toList = c) (hK : wpList P ops Q rest (a.put o.dst (.bool c)) w) : wpList P ops Q (o :: rest) a w := by
  refine wpList_plain hg fun K' hK' => ?_
  have hrun := hown.run_lookup hk he ht hz hs
  rw [hc] at hrun
  unfold Oper.wp
  simp [execOp, hop, hm, hx, hrun, Result.andThen]
  exact hK' _ _ hK
theorem wpList_update_set (hg : o.guard = none) (m x v : Operand) (t : TypeId) (hop : o.op = Op.mapUpdate t m x v) (k e : TypeId) (hk : P.underlying k = some .string) (he : P.underlying e = some .bool) (ht : P.underlying t = some (.map k e))
    (b n : Nat) (l : List (List UInt8)) (hm : a.eval m = .map (some b)) (hown : TextSet P w k e b n l) (hn : n < maxLen) (s : ByteArray) (hx : a.eval x = .string s) (hv : a.eval v = .bool true) (hs : s.size ≤ maxLen)
    (hK : ∀ w', TextSet P w' k e b (n + 1) (l ++ [s.data.toList]) → w.grownBy w' (some b) → wpList P ops Q rest (a.put o.dst undef) w') : wpList P ops Q (o :: rest) a w := by
  refine wpList_plain hg fun K' hK' => ?_
  obtain ⟨w', hrun, r1, r2⟩ := hown.update hk he ht hn hs
  unfold Oper.wp
  simp [execOp, hop, hm, hx, hv, hrun, Result.andThen]
  exact hK' _ _ (hK w' r1 r2)
end
/-- Block b is a map of integers of the call's own: f gives what stands at a key, if anything does. -/
def IntMap (P : Program) (w : World) (k e : TypeId) (b n : Nat) (f : Int → Option Int) : Prop :=
  ∃ D : DataW Unit, w.ownsMap P k (plainElem P e) b n D ∧ IsMap D ∧ ∀ x : Int, D.atKey (.int .i64 x) (.lit (.int .i64 0)) = .lit (.int .i64 ((f x).getD 0)) ∧ has D (.int .i64 x) = (f x).isSome
namespace IntMap
variable {P : Program} {w w' : World} {k e : TypeId} {b n : Nat} {f : Int → Option Int}
theorem made (P : Program) (w : World) (k e : TypeId) : IntMap P (w.alloc (.map #[] 0)) k e w.heap.size 0 (fun _ => none) := by
  refine ⟨.map [], World.ownsMap_made w P k _, isMap_empty, fun s => ?_⟩
  simp [DataW.atKey, has]
theorem fr {S : Nat → Prop} (h : IntMap P w k e b n f) (hf : Fr S w w') (hn : ¬ S b) : IntMap P w' k e b n f := by
  obtain ⟨D, ⟨es, c, h1, h4⟩, h2, h3⟩ := h
  exact ⟨D, ⟨es, c, (hf.block b (lt_blk h1) hn).trans h1, h4⟩, h2, h3⟩
theorem grow (h : IntMap P w k e b n f) (hb : Below w.heap.size w w') : IntMap P w' k e b n f := h.fr (Fr.of_grow hb) (fun h => h)
theorem alloc (h : IntMap P w k e b n f) (o : Obj) : IntMap P (w.alloc o) k e b n f := h.fr ((Fr.refl Nil w).alloc o) (fun h => h)
theorem lt (h : IntMap P w k e b n f) : b < w.heap.size := by
  obtain ⟨D, h1, _⟩ := h
  exact h1.lt
theorem update (h : IntMap P w k e b n f) {t : TypeId} (hk : P.underlying k = some (.int .i64)) (he : P.underlying e = some (.int .i64)) (ht : P.underlying t = some (.map k e)) (hn : n < maxLen) {x y : Int} (hx : (Lit.int .i64 x).wf = true) (hy : (Lit.int .i64 y).wf = true) :
    ∃ w', (Instr.mapUpdate t (.map (some b)) (.int .i64 x) (.int .i64 y)).run P w = .ok () w' ∧ IntMap P w' k e b (n + 1) (fun z => if z = x then some y else f z) ∧ w.grownBy w' (some b) := by
  obtain ⟨D, h1, h2, h3⟩ := h
  obtain ⟨w', hrun, r1, r2⟩ := h1.update (int_keyed hk) ht hn (keyOf_int_mk hk hx) (plainElem_int he hy)
  refine ⟨w', hrun, ⟨_, r1, h2.put _ _, fun z => ?_⟩, r2⟩
  by_cases hz : z = x
  · subst hz
    rw [atKey_put_same h2 (by trivial), has_put_same h2 (by trivial)]
    simp
  · rw [atKey_put_other (by intro e; injection e with _ e; exact hz e), has_put_other (by intro e; injection e with _ e; exact hz e), (h3 z).1, (h3 z).2]
    simp [hz]
theorem run_lookup_ok (h : IntMap P w k e b n f) {t : TypeId} (hk : P.underlying k = some (.int .i64)) (he : P.underlying e = some (.int .i64)) (ht : P.underlying t = some (.map k e)) (hz : (zeroValue e).run P w = .ok (.int .i64 0) w) {x : Int} (hx : (Lit.int .i64 x).wf = true) :
    (Instr.lookup t (.map (some b)) (.int .i64 x) true).run P w = .ok (.tuple #[.int .i64 ((f x).getD 0), .bool (f x).isSome]) w := by
  obtain ⟨D, h1, h2, h3⟩ := h
  obtain ⟨v, ps, hrun, hv⟩ := h1.look_ok (int_keyed hk) ht hz (plainElem_int he (by decide : (Lit.int .i64 0).wf = true)) (keyOf_int_mk hk hx)
  obtain ⟨c, rfl, hc, hwc⟩ := plainElem_int_inv he hv
  have := congrArg Prod.fst hc
  simp only [(h3 x).1] at this
  injection this with this
  injection this with _ this
  rw [hrun, (h3 x).2, this]
theorem run_lookup (h : IntMap P w k e b n f) {t : TypeId} (hk : P.underlying k = some (.int .i64)) (he : P.underlying e = some (.int .i64)) (ht : P.underlying t = some (.map k e)) (hz : (zeroValue e).run P w = .ok (.int .i64 0) w) {x : Int} (hx : (Lit.int .i64 x).wf = true) :
    (Instr.lookup t (.map (some b)) (.int .i64 x) false).run P w = .ok (.int .i64 ((f x).getD 0)) w := by
  obtain ⟨D, h1, h2, h3⟩ := h
  obtain ⟨c, hrun, hat, _⟩ := h1.lookup_int (int_keyed hk) ht he hz (keyOf_int_mk hk hx)
  rw [(h3 x).1] at hat
  injection hat with hat
  injection hat with _ hat
  rw [hrun, hat]
end IntMap
section
variable {P : Program} (w : World) {ops : Array Oper} {rest : List Oper} {o : Oper} {a : Act} {Q : Exit → Act → World → Prop}
theorem wpList_insert_int (hg : o.guard = none) (m x v : Operand) (t : TypeId) (hop : o.op = Op.insert t m x v ∨ o.op = Op.mapUpdate t m x v) (k e : TypeId) (hk : P.underlying k = some (.int .i64)) (he : P.underlying e = some (.int .i64)) (ht : P.underlying t = some (.map k e))
    (b n : Nat) (f : Int → Option Int) (hm : a.eval m = .map (some b)) (hown : IntMap P w k e b n f) (hn : n < maxLen) (p q : Int) (hx : a.eval x = .int .i64 p) (hv : a.eval v = .int .i64 q) (hp : (Lit.int .i64 p).wf = true) (hq : (Lit.int .i64 q).wf = true)
    (hK : ∀ w', IntMap P w' k e b (n + 1) (fun z => if z = p then some q else f z) → w.grownBy w' (some b) → wpList P ops Q rest (a.put o.dst undef) w') : wpList P ops Q (o :: rest) a w := by
  refine wpList_plain hg fun K' hK' => ?_
  obtain ⟨w', hrun, r1, r2⟩ := hown.update hk he ht hn hp hq
  unfold Oper.wp
  rcases hop with hop | hop <;> simp [execOp, hop, hm, hx, hv, hrun, Result.andThen] <;> exact hK' _ _ (hK w' r1 r2)
end
end Go
