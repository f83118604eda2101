/- Over any program: maps of the call's own with texts as keys, as functions: map[string]int and map[string]bool. -/
import Derived.Test.YtplfdibbnkjckaaMapF
namespace Go
open Go.RowKit Go.Maps
set_option linter.unusedVariables false
set_option linter.unusedSimpArgs false
/-- Block b is a map[string]int of the call's own: f gives what stands at a key, if anything does. -/
def TextInt (P : Program) (w : World) (k e : TypeId) (b n : Nat) (f : List UInt8 → Option Int) : Prop :=
  ∃ D : DataW Unit, w.ownsMap P k (plainElem P e) b n D ∧ IsMap D ∧ ∀ x : List UInt8, D.atKey (.string x) (.lit (.int .i64 0)) = .lit (.int .i64 ((f x).getD 0)) ∧ has D (.string x) = (f x).isSome
namespace TextInt
variable {P : Program} {w w' : World} {k e : TypeId} {b n : Nat} {f : List UInt8 → Option Int}
theorem made (P : Program) (w : World) (k e : TypeId) : TextInt P (w.alloc (.map #[] 0)) k e w.heap.size 0 (fun _ => none) := by
  refine ⟨.map [], World.ownsMap_made w P k _, isMap_empty, fun s => ?_⟩
  simp [DataW.atKey, has]
theorem fr {S : Nat → Prop} (h : TextInt P w k e b n f) (hf : Fr S w w') (hn : ¬ S b) : TextInt P w' k e b n f := by
  obtain ⟨D, ⟨es, c, h1, h4⟩, h2, h3⟩ := h
  exact ⟨D, ⟨es, c, (hf.block b (lt_blk h1) hn).trans h1, h4⟩, h2, h3⟩
theorem grow (h : TextInt P w k e b n f) (hb : Below w.heap.size w w') : TextInt P w' k e b n f := h.fr (Fr.of_grow hb) (fun h => h)
theorem alloc (h : TextInt P w k e b n f) (o : Obj) : TextInt P (w.alloc o) k e b n f := h.fr ((Fr.refl Nil w).alloc o) (fun h => h)
theorem lt (h : TextInt P w k e b n f) : b < w.heap.size := by
  obtain ⟨D, h1, _⟩ := h
  exact h1.lt
theorem update (h : TextInt P w k e b n f) {t : TypeId} (hk : P.underlying k = some .string) (he : P.underlying e = some (.int .i64)) (ht : P.underlying t = some (.map k e)) (hn : n < maxLen) {s : ByteArray} (hs : s.size ≤ maxLen) {y : Int} (hy : (Lit.int .i64 y).wf = true) :
    ∃ w', (Instr.mapUpdate t (.map (some b)) (.string s) (.int .i64 y)).run P w = .ok () w' ∧ TextInt P w' k e b (n + 1) (fun z => if z = s.data.toList then some y else f z) ∧ w.grownBy w' (some b) := by
  obtain ⟨D, h1, h2, h3⟩ := h
  obtain ⟨w', hrun, r1, r2⟩ := h1.update (string_keyed hk) ht hn (WideMaps.keyOf_string_mk hk hs) (plainElem_int he hy)
  refine ⟨w', hrun, ⟨_, r1, h2.put _ _, fun z => ?_⟩, r2⟩
  by_cases hz : z = s.data.toList
  · subst hz
    rw [atKey_put_same h2 (by trivial), has_put_same h2 (by trivial)]
    simp
  · rw [atKey_put_other (by intro e; injection e with e; exact hz e), has_put_other (by intro e; injection e with e; exact hz e), (h3 z).1, (h3 z).2]
    simp [hz]
theorem run_lookup_ok (h : TextInt P w k e b n f) {t : TypeId} (hk : P.underlying k = some .string) (he : P.underlying e = some (.int .i64)) (ht : P.underlying t = some (.map k e)) (hz : (zeroValue e).run P w = .ok (.int .i64 0) w) {s : ByteArray} (hs : s.size ≤ maxLen) :
    (Instr.lookup t (.map (some b)) (.string s) true).run P w = .ok (.tuple #[.int .i64 ((f s.data.toList).getD 0), .bool (f s.data.toList).isSome]) w := by
  obtain ⟨D, h1, h2, h3⟩ := h
  obtain ⟨v, ps, hrun, hv⟩ := h1.look_ok (string_keyed hk) ht hz (plainElem_int he (by decide : (Lit.int .i64 0).wf = true)) (WideMaps.keyOf_string_mk hk hs)
  obtain ⟨c, rfl, hc, hwc⟩ := plainElem_int_inv he hv
  have := congrArg Prod.fst hc
  simp only [(h3 _).1] at this
  injection this with this
  injection this with _ this
  rw [hrun, (h3 _).2, this]
end TextInt
/-- Block b is a map[string]bool of the call's own: f gives what stands at a key (false if nothing does). -/
def TextBool (P : Program) (w : World) (k e : TypeId) (b n : Nat) (f : List UInt8 → Bool) : Prop :=
  ∃ D : DataW Unit, w.ownsMap P k (plainElem P e) b n D ∧ IsMap D ∧ ∀ x : List UInt8, D.atKey (.string x) (.lit (.bool false)) = .lit (.bool (f x))
namespace TextBool
variable {P : Program} {w w' : World} {k e : TypeId} {b n : Nat} {f : List UInt8 → Bool}
theorem made (P : Program) (w : World) (k e : TypeId) : TextBool P (w.alloc (.map #[] 0)) k e w.heap.size 0 (fun _ => false) := by
  refine ⟨.map [], World.ownsMap_made w P k _, isMap_empty, fun s => ?_⟩
  simp [DataW.atKey]
theorem fr {S : Nat → Prop} (h : TextBool P w k e b n f) (hf : Fr S w w') (hn : ¬ S b) : TextBool P w' k e b n f := by
  obtain ⟨D, ⟨es, c, h1, h4⟩, h2, h3⟩ := h
  exact ⟨D, ⟨es, c, (hf.block b (lt_blk h1) hn).trans h1, h4⟩, h2, h3⟩
theorem grow (h : TextBool P w k e b n f) (hb : Below w.heap.size w w') : TextBool P w' k e b n f := h.fr (Fr.of_grow hb) (fun h => h)
theorem alloc (h : TextBool P w k e b n f) (o : Obj) : TextBool P (w.alloc o) k e b n f := h.fr ((Fr.refl Nil w).alloc o) (fun h => h)
theorem lt (h : TextBool P w k e b n f) : b < w.heap.size := by
  obtain ⟨D, h1, _⟩ := h
  exact h1.lt
theorem update (h : TextBool P w k e b n f) {t : TypeId} (hk : P.underlying k = some .string) (he : P.underlying e = some .bool) (ht : P.underlying t = some (.map k e)) (hn : n < maxLen) {s : ByteArray} (hs : s.size ≤ maxLen) (y : Bool) :
    ∃ w', (Instr.mapUpdate t (.map (some b)) (.string s) (.bool y)).run P w = .ok () w' ∧ TextBool P w' k e b (n + 1) (fun z => if z = s.data.toList then y else f z) ∧ w.grownBy w' (some b) := by
  obtain ⟨D, h1, h2, h3⟩ := h
  obtain ⟨w', hrun, r1, r2⟩ := h1.update (string_keyed hk) ht hn (WideMaps.keyOf_string_mk hk hs) (plainElem_bool he y)
  refine ⟨w', hrun, ⟨_, r1, h2.put _ _, fun z => ?_⟩, r2⟩
  by_cases hz : z = s.data.toList
  · subst hz
    rw [atKey_put_same h2 (by trivial)]
    simp
  · rw [atKey_put_other (by intro e; injection e with e; exact hz e), h3 z]
    simp [hz]
theorem run_lookup (h : TextBool P w k e b n f) {t : TypeId} (hk : P.underlying k = some .string) (he : P.underlying e = some .bool) (ht : P.underlying t = some (.map k e)) (hz : (zeroValue e).run P w = .ok (.bool false) w) {s : ByteArray} (hs : s.size ≤ maxLen) :
    (Instr.lookup t (.map (some b)) (.string s) false).run P w = .ok (.bool (f s.data.toList)) w := by
  obtain ⟨D, h1, h2, h3⟩ := h
  obtain ⟨v, ps, hrun, hv⟩ := h1.lookup (string_keyed hk) ht hz (plainElem_bool he false) (WideMaps.keyOf_string_mk hk hs)
  rw [h3] at hv
  rw [hrun, plainElem_bool_inv he hv]
end TextBool
section
variable {P : Program} (w : World) {ops : Array Oper} {rest : List Oper} {o : Oper} {a : Act} {Q : Exit → Act → World → Prop}
theorem wpList_put_textInt (hg : o.guard = none) (m x v : Operand) (t : TypeId) (hop : o.op = Op.insert t m x v ∨ o.op = Op.mapUpdate t m x v) (k e : TypeId) (hk : P.underlying k = some .string) (he : P.underlying e = some (.int .i64)) (ht : P.underlying t = some (.map k e))
    (b n : Nat) (f : List UInt8 → Option Int) (hm : a.eval m = .map (some b)) (hown : TextInt P w k e b n f) (hn : n < maxLen) (s : ByteArray) (q : Int) (hx : a.eval x = .string s) (hv : a.eval v = .int .i64 q) (hs : s.size ≤ maxLen) (hq : (Lit.int .i64 q).wf = true)
    (hK : ∀ w', TextInt P w' k e b (n + 1) (fun z => if z = s.data.toList then some q else f z) → w.grownBy w' (some b) → wpList P ops Q rest (a.put o.dst undef) w') : wpList P ops Q (o :: rest) a w := by
  refine wpList_plain hg fun K' hK' => ?_
  obtain ⟨w', hrun, r1, r2⟩ := hown.update hk he ht hn hs hq
  unfold Oper.wp
  rcases hop with hop | hop <;> simp [execOp, hop, hm, hx, hv, hrun, Result.andThen] <;> exact hK' _ _ (hK w' r1 r2)
theorem wpList_put_textBool (hg : o.guard = none) (m x v : Operand) (t : TypeId) (hop : o.op = Op.insert t m x v ∨ o.op = Op.mapUpdate t m x v) (k e : TypeId) (hk : P.underlying k = some .string) (he : P.underlying e = some .bool) (ht : P.underlying t = some (.map k e))
    (b n : Nat) (f : List UInt8 → Bool) (hm : a.eval m = .map (some b)) (hown : TextBool P w k e b n f) (hn : n < maxLen) (s : ByteArray) (q : Bool) (hx : a.eval x = .string s) (hv : a.eval v = .bool q) (hs : s.size ≤ maxLen)
    (hK : ∀ w', TextBool P w' k e b (n + 1) (fun z => if z = s.data.toList then q else f z) → w.grownBy w' (some b) → wpList P ops Q rest (a.put o.dst undef) w') : wpList P ops Q (o :: rest) a w := by
  refine wpList_plain hg fun K' hK' => ?_
  obtain ⟨w', hrun, r1, r2⟩ := hown.update hk he ht hn hs q
  unfold Oper.wp
  rcases hop with hop | hop <;> simp [execOp, hop, hm, hx, hv, hrun, Result.andThen] <;> exact hK' _ _ (hK w' r1 r2)
end
end Go
