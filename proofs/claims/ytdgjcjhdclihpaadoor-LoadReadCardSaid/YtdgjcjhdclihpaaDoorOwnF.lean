/- Over any program: append onto a full slice that is only read. -/
import Derived.Test.YtdgjcjhdclihpaaDoorOwn
import Derived.Lib.SlBytesConst
namespace Go
open Go.RowKit
set_option linter.unusedVariables false
set_option linter.unusedSimpArgs false
theorem run_append_full {P : Program} (w : World) (base : Nat) (t ty e : TypeId) (i : TypeInfo) (z : Value) (ht : P.underlying t = some (.slice e)) (hi : P.info? e = some i) (hz : i.zero = some z)
    (hsize : i.size = 1) (hby : i.bytes = 1) (hzs : z.cells.size = 1)
    (g o n : Nat) (xs : List Value) (hold : Reads w w.heap.size 1 (some ⟨g, o, none⟩) n xs) (hn : 0 < n)
    (B : Nat) (b o' m c : Nat) (news : List Value) (hr : Reads w B 1 (some ⟨b, o', none⟩) m news) (h0 : 0 < m)
    (h63 : n + m ≤ 1000000) (hbase : base ≤ w.heap.size) :
    ∃ A' c' w', (Builtin.append_ #[t, t] ty #[.slice (some ⟨g, o, none⟩) n n, .slice (some ⟨b, o', none⟩) m c]).run P w = .ok (.slice A' (n + m) c') w' ∧ Row w' base e 1 (.slice A' (n + m) c') (n + m) (xs ++ news) ∧ w.grownBy w' none := by
  have hcell : ∀ j v, xs[j]? = some v → w.cell? ((⟨g, o, none⟩ : Addr).add j) = some v := fun j v hv => by
    obtain ⟨g', o2, e1, _, hc⟩ := hold.2 hn
    injection e1 with e1
    injection e1 with e1 e2
    subst e1; subst e2
    rw [add_plain]; exact hc j v hv
  have hnews : ∀ j v, news[j]? = some v → w.cell? ((⟨b, o', none⟩ : Addr).add j) = some v := fun j v hv => by
    obtain ⟨g', o2, e1, _, hc⟩ := hr.2 h0
    injection e1 with e1
    injection e1 with e1 e2
    subst e1; subst e2
    rw [add_plain]; exact hc j v hv
  have hru := run_append_grow (P := P) w t ty e i z ht hi hz ⟨g, o, none⟩ n n xs (by rw [hsize]; exact hold.1) hcell ⟨b, o', none⟩ m c news (by rw [hsize]; exact hr.1) hnews (by omega) (by omega) (growslice_fits (by omega) (by rw [hby]; omega))
  have hlen : (xs ++ news).length = (n + m) * 1 := by rw [List.length_append, hold.1, hr.1]; omega
  have hge := grownCap_ge w (n + m) n e
  have hcm : grownCap w (n + m) n e ≤ maxLen := grownCap_le_maxLen w (n + m) n e (by unfold maxLen; omega)
  refine ⟨_, _, _, hru, ⟨hlen, .inr ⟨w.heap.size, 0, _, _, rfl, hbase, heap_alloc_new w.drew _, hge, hcm, ?_, fun j y hy => ?_⟩⟩, ⟨rfl, rfl, rfl, by simp, fun k hk _ => Below.heap_alloc w.drew _ k hk⟩⟩
  · have h1 := hold.1
    have h2 := hr.1
    simp only [Array.size_append, List.size_toArray, size_zeroCells, hzs]
    omega
  · have hj : j < (xs ++ news).length := (List.getElem?_eq_some_iff.1 hy).1
    rw [Nat.zero_add, Array.getElem?_append_left (by simpa using hj)]
    simpa using hy
theorem wpList_append_full {P : Program} (w : World) {ops : Array Oper} {rest : List Oper} {op : Oper} {a : Act} {Q : Exit → Act → World → Prop} (hgd : op.guard = none) (s x : Operand) (t : TypeId)
    (ho : op.op = .call { callee := .builtin .append, args := #[s, x], argTypes := #[t, t] })
    (base : Nat) (e : TypeId) (i : TypeInfo) (z : Value) (ht : P.underlying t = some (.slice e)) (hi : P.info? e = some i) (hz : i.zero = some z)
    (hsize : i.size = 1) (hby : i.bytes = 1) (hzs : z.cells.size = 1)
    (g o n : Nat) (xs : List Value) (hs : a.eval s = .slice (some ⟨g, o, none⟩) n n) (hold : Reads w w.heap.size 1 (some ⟨g, o, none⟩) n xs) (hn : 0 < n)
    (B : Nat) (b o' m c : Nat) (news : List Value) (hx : a.eval x = .slice (some ⟨b, o', none⟩) m c) (hr : Reads w B 1 (some ⟨b, o', none⟩) m news) (h0 : 0 < m)
    (h63 : n + m ≤ 1000000) (hbase : base ≤ w.heap.size)
    (h : ∀ A' c' w', Row w' base e 1 (.slice A' (n + m) c') (n + m) (xs ++ news) → w.grownBy w' none → wpList P ops Q rest (a.put op.dst (.slice A' (n + m) c')) w') : wpList P ops Q (op :: rest) a w :=
  wpList_plain hgd fun K hK => by
    obtain ⟨A', c', w', hrun, h2, h3⟩ := run_append_full (P := P) w base t op.type e i z ht hi hz hsize hby hzs g o n xs hold hn B b o' m c news hr h0 h63 hbase
    unfold Oper.wp execOp
    simp only [ho, resolve, invoke, builtin, Sem.run_bind, Sem.run_pure, Result.andThen_ok, List.map_toArray, List.map_cons, List.map_nil, hs, hx, hrun]
    exact hK _ _ (h A' c' w' h2 h3)
end Go
