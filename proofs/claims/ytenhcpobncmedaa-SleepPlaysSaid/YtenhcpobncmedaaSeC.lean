/- Locks that are slept for: the two objects in memory; maps of integers with delete, maps from integers to bools; loads of a whole array. -/
import Derived.Test.YtenhcpobncmedaaSeB
import Derived.Test.YtenhcpobncmedaaPrA
import Derived.Test.YtenhcpobncmedaaSetF
import Derived.Test.YtenhcpobncmedaaTMap
import Derived.Laws.Rows
namespace Go
open Go.RowKit Go.Maps
set_option linter.unusedVariables false
set_option linter.unusedSimpArgs false
namespace IntMap
variable {P : Program} {w w' : World} {k e : TypeId} {b n : Nat} {f : Int → Option Int}
theorem delete (h : IntMap P w k e b n f) {t : TypeId} (hk : P.underlying k = some (.int .i64)) (ht : P.underlying t = some (.map k e)) {x : Int} (hx : (Lit.int .i64 x).wf = true) :
    ∃ w', (∀ ty, (Builtin.delete_ #[t, k] ty #[.map (some b), .int .i64 x]).run P w = .ok (.tuple #[]) w') ∧ IntMap P w' k e b n (fun z => if z = x then none else f z) ∧ w.grownBy w' (some b) := by
  obtain ⟨D, h1, h2, h3⟩ := h
  obtain ⟨w', hrun, r1, r2⟩ := h1.drop (int_keyed hk) ht (keyOf_int_mk hk hx) 0
  refine ⟨w', fun ty => hrun, ⟨_, r1, h2.del _, fun z => ?_⟩, r2.grown⟩
  by_cases hz : z = x
  · subst hz
    rw [has_del_same, atKey_del_same]; simp
  · rw [has_del_other (by intro e; injection e with _ e; exact hz e), atKey_del_other (by intro e; injection e with _ e; exact hz e), (h3 z).1, (h3 z).2]; simp [hz]
theorem drewN (h : IntMap P w k e b n f) (m : Nat) : IntMap P (w.drewN m) k e b n f := by
  obtain ⟨D, ⟨es, c, h1, h4⟩, h2, h3⟩ := h
  exact ⟨D, ⟨es, c, h1, h4⟩, h2, h3⟩
end IntMap
/-- Block b is a map from integers to bools of the call's own; what is not there reads as false. -/
def IntBool (P : Program) (w : World) (k e : TypeId) (b n : Nat) (f : Int → Bool) : Prop :=
  ∃ D : DataW Unit, w.ownsMap P k (plainElem P e) b n D ∧ IsMap D ∧ ∀ x : Int, D.atKey (.int .i64 x) (.lit (.bool false)) = .lit (.bool (f x))
namespace IntBool
variable {P : Program} {w w' : World} {k e : TypeId} {b n : Nat} {f : Int → Bool}
theorem made (P : Program) (w : World) (k e : TypeId) : IntBool P (w.alloc (.map #[] 0)) k e w.heap.size 0 (fun _ => false) :=
  ⟨.map [], World.ownsMap_made w P k _, isMap_empty, fun s => by simp [DataW.atKey]⟩
theorem fr {S : Nat → Prop} (h : IntBool P w k e b n f) (hf : Fr S w w') (hn : ¬ S b) : IntBool P w' k e b n f := by
  obtain ⟨D, ⟨es, c, h1, h4⟩, h2, h3⟩ := h
  exact ⟨D, ⟨es, c, (hf.block b (lt_blk h1) hn).trans h1, h4⟩, h2, h3⟩
theorem grow (h : IntBool P w k e b n f) (hb : Below w.heap.size w w') : IntBool P w' k e b n f := h.fr (Fr.of_grow hb) (fun h => h)
theorem update (h : IntBool P w k e b n f) {t : TypeId} (hk : P.underlying k = some (.int .i64)) (he : P.underlying e = some .bool) (ht : P.underlying t = some (.map k e)) (hn : n < maxLen) {x : Int} (hx : (Lit.int .i64 x).wf = true) (y : Bool) :
    ∃ w', (Instr.mapUpdate t (.map (some b)) (.int .i64 x) (.bool y)).run P w = .ok () w' ∧ IntBool P w' k e b (n + 1) (fun z => if z = x then y else f z) ∧ w.grownBy w' (some b) := by
  obtain ⟨D, h1, h2, h3⟩ := h
  obtain ⟨w', hrun, r1, r2⟩ := h1.update (int_keyed hk) ht hn (keyOf_int_mk hk hx) (plainElem_bool he y)
  refine ⟨w', hrun, ⟨_, r1, h2.put _ _, fun z => ?_⟩, r2⟩
  by_cases hz : z = x
  · subst hz
    rw [atKey_put_same h2 (by trivial)]; simp
  · rw [atKey_put_other (by intro e; injection e with _ e; exact hz e), h3 z]; simp [hz]
theorem run_lookup (h : IntBool P w k e b n f) {t : TypeId} (hk : P.underlying k = some (.int .i64)) (he : P.underlying e = some .bool) (ht : P.underlying t = some (.map k e)) (hz : (zeroValue e).run P w = .ok (.bool false) w) {x : Int} (hx : (Lit.int .i64 x).wf = true) :
    (Instr.lookup t (.map (some b)) (.int .i64 x) false).run P w = .ok (.bool (f x)) w := by
  obtain ⟨D, h1, h2, h3⟩ := h
  obtain ⟨v, ps, hrun, hv⟩ := h1.lookup (int_keyed hk) ht hz (plainElem_bool he false) (keyOf_int_mk hk hx)
  rw [h3] at hv
  rw [hrun, plainElem_bool_inv he hv]
end IntBool
section
variable {P : Program}
theorem run_load_arr (w : World) (g off : Nat) (ty : TypeId) (cs : Array Value) (d : TypeDesc) (hc : ∀ j u, cs[j]? = some u → w.cell? ⟨g, off + j, none⟩ = some u)
    (hu : P.underlying ty = some d) (hd : (match d with | .struct _ | .array _ _ => true | _ => false) = true) (hi : (P.info? ty).map (·.size) = some cs.size) :
    (loadVar ty ⟨g, off, none⟩).run P w = .ok (.agg cs) w := by
  have hl : (loadCells ⟨g, off, none⟩ cs.toList.length).run P w = .ok cs.toList.toArray w :=
    run_loadCells_list (P := P) w ⟨g, off, none⟩ cs.toList (fun j v hv => by
      rw [add_plain]
      exact hc j v (by simpa using hv))
  cases hq : P.info? ty with
  | none => simp [hq] at hi
  | some i =>
    have hs : i.size = cs.size := by simpa [hq] using hi
    have hagg : (isAgg ty).run P w = .ok true w := by
      unfold isAgg
      rw [Sem.run_bind, run_underlying hu w]
      cases d <;> simp_all
    simp only [Array.length_toList, Array.toArray_toList] at hl
    simp [loadVar, Sem.run_bind, hagg, sizeOf, typeInfo, hq, hs, hl]
theorem wpList_load_arr {ops : Array Oper} {rest : List Oper} {o : Oper} {a : Act} {w : World} {Q : Exit → Act → World → Prop} (hgd : o.guard = none) (ty : TypeId) (x : Operand) (ho : o.op = .load ty x)
    (g off : Nat) (hx : a.eval x = .pointer (some ⟨g, off, none⟩)) (cs : Array Value) (d : TypeDesc) (hc : ∀ j u, cs[j]? = some u → w.cell? ⟨g, off + j, none⟩ = some u)
    (hu : P.underlying ty = some d) (hd : (match d with | .struct _ | .array _ _ => true | _ => false) = true) (hi : (P.info? ty).map (·.size) = some cs.size)
    (h : wpList P ops Q rest (a.put o.dst (.agg cs)) w) : wpList P ops Q (o :: rest) a w :=
  wpList_plain hgd fun _ hK => by
    unfold Oper.wp execOp
    simp only [ho, hx, Instr.loadAt, Instr.sureAddr, Sem.run_bind, Sem.run_pure, Result.andThen_ok, run_load_arr w g off ty cs d hc hu hd hi]
    exact hK _ _ h
end
end Go
namespace Go.Proofs.Ytenhcpobncmedaa
open Go.RowKit Go.Maps
set_option maxHeartbeats 400000
set_option linter.unusedVariables false
set_option linter.unusedSimpArgs false
def hdO (bp : Nat) (O : Nat → Int) : List Value := .map (some bp) :: (List.range 16).map fun i => .int .i64 (O i)
theorem hdO_len (bp : Nat) (O : Nat → Int) : (hdO bp O).length = 17 := by simp [hdO]
theorem hdO_at {bp : Nat} {O : Nat → Int} {i : Nat} (h : i < 16) : (hdO bp O)[1 + i]? = some (.int .i64 (O i)) := by
  rw [Nat.add_comm]
  simp [hdO, h]
theorem hdO_set {bp : Nat} {O : Nat → Int} {i : Nat} (h : i < 16) (x : Int) : (hdO bp O).set (1 + i) (.int .i64 x) = hdO bp (updV O i x) := by
  unfold hdO
  rw [Nat.add_comm, List.set_cons_succ]
  congr 1
  apply List.ext_getElem?
  intro j
  rw [List.getElem?_set]
  by_cases hj : i = j
  · subst hj; simp [h, updV]
  · rw [if_neg hj]
    by_cases hjn : j < 16
    · simp [hjn, updV, Ne.symm hj]
    · simp [hjn]
def forM (F : Nat → List Int) (x : Int) : Option Int := (wfor F x).map fun k => (k : Int)
/-- What reading needs of the reference's locks. -/
structure LkR (w : World) (g bp np : Nat) (s : LkS) : Prop where
  hp : w.cell? ⟨g, 0, none⟩ = some (.map (some bp))
  ho : ∀ i, i < 16 → w.cell? ⟨g, 1 + i, none⟩ = some (.int .i64 (s.O i))
  hr : ∀ i, i < 16 → ∃ A n c, w.cell? ⟨g, 17 + i, none⟩ = some (.slice A n c) ∧ RD w w.heap.size A n (s.F i) ∧ n ≤ 9223372036854775807
  pr : IntMap Try.prog w 3 3 bp np s.P
/-- And of the program's. -/
structure LkQ (w : World) (g bp np bf nf : Nat) (s : LkS) : Prop extends LkR w g bp np s where
  hf : w.cell? ⟨g, 33, none⟩ = some (.map (some bf))
  fr : IntMap Try.prog w 3 3 bf nf (forM s.F)
theorem LkR.lt {w : World} {g bp np : Nat} {s : LkS} (h : LkR w g bp np s) : g < w.heap.size := pr_lt_cell h.hp
theorem LkR.grow {w w' : World} {g bp np : Nat} {s : LkS} (h : LkR w g bp np s) (hb : Below w.heap.size w w') : LkR w' g bp np s where
  hp := (hb.cell (p := ⟨g, 0, none⟩) h.lt).trans h.hp
  ho := fun i hi => (hb.cell (p := ⟨g, 1 + i, none⟩) h.lt).trans (h.ho i hi)
  hr := fun i hi => by
    obtain ⟨A, n, c, h1, h2, h3⟩ := h.hr i hi
    exact ⟨A, n, c, (hb.cell (p := ⟨g, 17 + i, none⟩) h.lt).trans h1, (h2.below' hb (Nat.le_refl _) : RD w' w.heap.size A n (s.F i)).more hb.size, h3⟩
  pr := h.pr.grow hb
theorem LkQ.grow {w w' : World} {g bp np bf nf : Nat} {s : LkS} (h : LkQ w g bp np bf nf s) (hb : Below w.heap.size w w') : LkQ w' g bp np bf nf s where
  toLkR := h.toLkR.grow hb
  hf := (hb.cell (p := ⟨g, 33, none⟩) h.toLkR.lt).trans h.hf
  fr := h.fr.grow hb
theorem zero3 (w : World) : (zeroValue 3).run Try.prog w = .ok (.int .i64 0) w := by kernel_rfl
/-- The two lookups as run equations. -/
theorem LkR.look {w : World} {g bp np : Nat} {s : LkS} (h : LkR w g bp np s) {t : Int} (ht : (Lit.int .i64 t).wf = true) :
    (Instr.lookup 78 (.map (some bp)) (.int .i64 t) true).run Try.prog w = .ok (.tuple #[.int .i64 ((s.P t).getD 0), .bool (s.P t).isSome]) w :=
  h.pr.run_lookup_ok Try.underlying3 Try.underlying3 Try.underlying78 (zero3 w) ht
theorem LkQ.lookF {w : World} {g bp np bf nf : Nat} {s : LkS} (h : LkQ w g bp np bf nf s) {t : Int} (ht : (Lit.int .i64 t).wf = true) :
    (Instr.lookup 78 (.map (some bf)) (.int .i64 t) true).run Try.prog w = .ok (.tuple #[.int .i64 ((forM s.F t).getD 0), .bool (forM s.F t).isSome]) w :=
  h.fr.run_lookup_ok Try.underlying3 Try.underlying3 Try.underlying78 (zero3 w) ht
/-- One of the two objects. -/
structure LkM (w : World) (B g bp np : Nat) (t : TypeId) (tl : List Value) (vs : Nat → Value) (s : LkS) : Prop where
  arr : Arr w B g t (hdO bp s.O) 16 tl vs s.F
  prio : IntMap Try.prog w 3 3 bp np s.P
  pne : bp ≠ g
  pnr : ∀ i, i < 16 → (vs i).ownBlock ≠ some bp
  low : B ≤ bp
def LkMF (g bp : Nat) (vs : Nat → Value) (k : Nat) : Prop := ArrF g 16 vs k ∨ k = bp
structure LkP (w : World) (B g bp np bf nf : Nat) (vs : Nat → Value) (s : LkS) : Prop where
  m : LkM w B g bp np 159 [.map (some bf)] vs s
  for_ : IntMap Try.prog w 3 3 bf nf (forM s.F)
  fne : bf ≠ g
  fnp : bf ≠ bp
  fnr : ∀ i, i < 16 → (vs i).ownBlock ≠ some bf
  flow : B ≤ bf
def LkPF (g bp bf : Nat) (vs : Nat → Value) (k : Nat) : Prop := LkMF g bp vs k ∨ k = bf
namespace LkM
variable {w w' : World} {B g bp np : Nat} {t : TypeId} {tl : List Value} {vs : Nat → Value} {s : LkS}
theorem keep {S : Nat → Prop} (h : LkM w B g bp np t tl vs s) (hf : Fr S w w') (hn : ∀ k, LkMF g bp vs k → ¬ S k) : LkM w' B g bp np t tl vs s :=
  ⟨h.arr.keep hf (fun k hk => hn k (.inl hk)), h.prio.fr hf (hn bp (.inr rfl)), h.pne, h.pnr, h.low⟩
theorem grow (h : LkM w B g bp np t tl vs s) (hb : Below w.heap.size w w') : LkM w' B g bp np t tl vs s := h.keep (Fr.of_grow hb) (fun _ _ h => h)
theorem lt (h : LkM w B g bp np t tl vs s) : ∀ k, LkMF g bp vs k → B ≤ k ∧ k < w.heap.size := fun k hk => by
  rcases hk with hk | rfl
  · exact h.arr.lt k hk
  · exact ⟨h.low, h.prio.lt⟩
theorem rd (h : LkM w B g bp np t tl vs s) : LkR w g bp np s where
  hp := (h.arr.blk.cell 0).trans ((arrC_hd _ _ _ (by rw [hdO_len]; omega)).trans rfl)
  ho := fun i hi => (h.arr.blk.cell (1 + i)).trans ((arrC_hd _ _ _ (by rw [hdO_len]; omega)).trans (hdO_at hi))
  hr := fun i hi => by
    obtain ⟨A, c, hv, h1, h2⟩ := (h.arr.row i hi).shape
    have h3 := h.arr.row i hi
    have h4 := h.arr.cell hi
    rw [hv] at h3 h4
    rw [hdO_len] at h4
    unfold maxLen at h2
    exact ⟨A, _, c, h4, RD.of_row h3, by omega⟩
  pr := h.prio
end LkM
namespace LkP
variable {w w' : World} {B g bp np bf nf : Nat} {vs : Nat → Value} {s : LkS}
theorem keep {S : Nat → Prop} (h : LkP w B g bp np bf nf vs s) (hf : Fr S w w') (hn : ∀ k, LkPF g bp bf vs k → ¬ S k) : LkP w' B g bp np bf nf vs s :=
  ⟨h.m.keep hf (fun k hk => hn k (.inl hk)), h.for_.fr hf (hn bf (.inr rfl)), h.fne, h.fnp, h.fnr, h.flow⟩
theorem grow (h : LkP w B g bp np bf nf vs s) (hb : Below w.heap.size w w') : LkP w' B g bp np bf nf vs s := h.keep (Fr.of_grow hb) (fun _ _ h => h)
theorem lt (h : LkP w B g bp np bf nf vs s) : ∀ k, LkPF g bp bf vs k → B ≤ k ∧ k < w.heap.size := fun k hk => by
  rcases hk with hk | rfl
  · exact h.m.lt k hk
  · exact ⟨h.flow, h.for_.lt⟩
theorem rd (h : LkP w B g bp np bf nf vs s) : LkQ w g bp np bf nf s where
  toLkR := h.m.rd
  hf := (h.m.arr.blk.cell 33).trans (by
    have := arrC_tl (hdO bp s.O) (N := 16) (i := 0) vs [.map (some bf)]
    rw [hdO_len] at this
    exact this)
  fr := h.for_
end LkP
end Go.Proofs.Ytenhcpobncmedaa
