/- append onto an empty literal (memory only grows); more of the plain law of pulling. -/
import Derived.Test.YtplfdibbnkjckaaPuC
namespace Go.Proofs.Ytplfdibbnkjckaa
open Go.RowKit
set_option maxHeartbeats 400000
set_option linter.unusedVariables false
set_option linter.unusedSimpArgs false
/-- An empty slice with no room. -/
def Lit0 (w : World) (base : Nat) (e : TypeId) (size : Nat) (v : Value) : Prop := ∃ g, v = .slice (some ⟨g, 0, none⟩) 0 0 ∧ Row w base e size v 0 []
theorem Lit0.grow {w w' : World} {base : Nat} {e : TypeId} {size : Nat} {v : Value} (h : Lit0 w base e size v) (hb : Below w.heap.size w w') : Lit0 w' base e size v := by
  obtain ⟨g, rfl, h⟩ := h; exact ⟨g, rfl, h.grow hb⟩
def lit0St (base : Nat) (e : TypeId) (size : Nat) : St := ⟨fun v W => Lit0 W base e size v, fun v W W' h hg => h.grow hg⟩
theorem lit0_new (w : World) (base : Nat) (e : TypeId) (size : Nat) (hb : base ≤ w.heap.size) : Lit0 (w.alloc (.cells #[] e)) base e size (.slice (some ⟨w.heap.size, 0, none⟩) 0 0) := by
  refine ⟨w.heap.size, rfl, by simp, .inr ⟨w.heap.size, 0, 0, #[], rfl, hb, heap_alloc_new w _, Nat.le_refl _, by simp, by simp, fun j u hu => by simp at hu⟩⟩
theorem run_append_lit0 {P : Program} (w : World) (base : Nat) (t ty e : TypeId) (i : TypeInfo) (z : Value) (size bytes : Nat) (ht : P.underlying t = some (.slice e)) (hi : P.info? e = some i) (hz : i.zero = some z)
    (hsize : i.size = size) (hby : i.bytes = bytes) (hzs : z.cells.size = size) (hsz : 0 < size) (g : Nat) (hown : Row w base e size (.slice (some ⟨g, 0, none⟩) 0 0) 0 [])
    (B : Nat) (A : Option Addr) (m c : Nat) (news : List Value) (hr : Reads w B size A m news)
    (h63 : m ≤ maxLen) (hbytes : m * bytes ≤ 140737488355328) (hbase : base ≤ w.heap.size) :
    ∃ A' c' w', (Builtin.append_ #[t, t] ty #[.slice (some ⟨g, 0, none⟩) 0 0, .slice A m c]).run P w = .ok (.slice A' m c') w' ∧ Row w' base e size (.slice A' m c') m news ∧ w.grownBy w' none := by
  subst hsize
  subst hby
  rcases Nat.eq_zero_or_pos m with h0 | h0
  · subst h0
    have hn : news = [] := List.eq_nil_of_length_eq_zero (by simpa using hr.1)
    subst hn
    refine ⟨some ⟨g, 0, none⟩, 0, w, ?_, hown, World.grownBy.refl w _⟩
    cases A <;> simp [Builtin.append_, run_underlying ht, sizeOf, typeInfo, hi, Builtin.lenOf, Builtin.firstCells, storeCells, loadCells, loadCellsFrom]
  · obtain ⟨b, o', rfl, _, hc⟩ := hr.2 h0
    have hnews : ∀ j u, news[j]? = some u → w.cell? ((⟨b, o', none⟩ : Addr).add j) = some u := fun j u hu => by rw [add_plain]; exact hc j u hu
    have hsmall : m ≤ 9223372036854775807 := by simp only [maxLen] at h63; omega
    have hru := run_append_grow (P := P) w t ty e i z ht hi hz ⟨g, 0, none⟩ 0 0 [] (by simp) (fun j u hu => by simp at hu) ⟨b, o', none⟩ m c news hr.1 hnews (by omega) (by omega) (growslice_fits (by omega) (by simpa using hbytes))
    simp only [Nat.zero_add, List.nil_append, Array.empty_append] at hru
    have hge := grownCap_ge w m 0 e
    have hcm : grownCap w m 0 e ≤ maxLen := grownCap_le_maxLen w m 0 e h63
    refine ⟨_, _, _, hru, ⟨hr.1, .inr ⟨w.heap.size, 0, _, _, rfl, hbase, heap_alloc_new w.drew _, hge, hcm, ?_, fun j u hu => ?_⟩⟩, ⟨rfl, rfl, rfl, by simp, fun k hk _ => heap_alloc_old w.drew _ hk⟩⟩
    · simp only [Array.size_append, List.size_toArray, size_zeroCells, hzs, hr.1, Array.size_empty, Nat.zero_add, ← Nat.add_mul]
      exact Nat.le_of_eq (by congr 1; omega)
    · have hj : j < news.length := (List.getElem?_eq_some_iff.1 hu).1
      simp only [Nat.zero_add]
      rw [Array.getElem?_append_left (by simpa using hj)]
      simpa using hu
theorem wpList_append_lit0 {P : Program} (w : World) {ops : Array Oper} {rest : List Oper} {o : Oper} {a : Act} {Q : Exit → Act → World → Prop} (hgd : o.guard = none) (s x : Operand) (t : TypeId)
    (ho : o.op = .call { callee := .builtin .append, args := #[s, x], argTypes := #[t, t] })
    (base : Nat) (e : TypeId) (i : TypeInfo) (z : Value) (size bytes : Nat) (ht : P.underlying t = some (.slice e)) (hi : P.info? e = some i) (hz : i.zero = some z)
    (hsize : i.size = size) (hby : i.bytes = bytes) (hzs : z.cells.size = size) (hsz : 0 < size) (g : Nat) (hs : a.eval s = .slice (some ⟨g, 0, none⟩) 0 0) (hown : Row w base e size (.slice (some ⟨g, 0, none⟩) 0 0) 0 [])
    (B : Nat) (A : Option Addr) (m c : Nat) (news : List Value) (hx : a.eval x = .slice A m c) (hr : Reads w B size A m news)
    (h63 : m ≤ maxLen) (hbytes : m * bytes ≤ 140737488355328) (hbase : base ≤ w.heap.size)
    (h : ∀ A' c' w', Row w' base e size (.slice A' m c') m news → Below w.heap.size w w' → wpList P ops Q rest (a.put o.dst (.slice A' m c')) w') : wpList P ops Q (o :: rest) a w :=
  wpList_plain hgd fun K hK => by
    obtain ⟨A', c', w', hrun, h2, h3⟩ := run_append_lit0 (P := P) w base t o.type e i z size bytes ht hi hz hsize hby hzs hsz g hown B A m c news hr h63 hbytes hbase
    unfold Oper.wp execOp
    simp only [ho, resolve, invoke, builtin, Sem.run_bind, Sem.run_pure, Result.andThen_ok, List.map_toArray, List.map_cons, List.map_nil, hs, hx, hrun]
    exact hK _ _ (h A' c' w' h2 (Grow.of_none h3))
/-! the plain law -/
theorem pickR_app (a b : List ByteArray) (lib : List Fo) : pickR (a ++ b) lib = (pickR a lib).or (pickR b lib) := by
  induction a with
  | nil => rfl
  | cons s a ih => simp [pickR, ih, Option.or_assoc]
theorem pickR_hit {Lq : List ByteArray} {lib : List Fo} {k q : Nat} {s : ByteArray} {f : Fo} (hk : pickR (Lq.take k) lib = none) (hs : Lq[k]? = some s) (hf : lib[q]? = some f) (hp : hasF s f = true) (hno : ∀ j, j < q → ∀ f, lib[j]? = some f → hasF s f = false) : pickR Lq lib = some q := by
  obtain ⟨h1, h2⟩ := List.getElem?_eq_some_iff.1 hs
  obtain ⟨h3, h4⟩ := List.getElem?_eq_some_iff.1 hf
  have e : Lq = Lq.take k ++ s :: Lq.drop (k + 1) := by
    rw [← h2, ← List.drop_eq_getElem_cons h1, List.take_append_drop]
  rw [e, pickR_app, hk]
  have : lib.findIdx? (hasF s) = some q := by
    rw [List.findIdx?_eq_some_iff_getElem]
    exact ⟨h3, by rw [h4]; exact hp, fun j hj => by
      have := hno j hj _ (List.getElem?_eq_getElem (by omega))
      simpa using this⟩
  simp [pickR, this]
theorem pickR_step {Lq : List ByteArray} {lib : List Fo} {k : Nat} {s : ByteArray} (hk : pickR (Lq.take k) lib = none) (hs : Lq[k]? = some s) (hno : ∀ j, j < lib.length → ∀ f, lib[j]? = some f → hasF s f = false) : pickR (Lq.take (k + 1)) lib = none := by
  obtain ⟨h1, h2⟩ := List.getElem?_eq_some_iff.1 hs
  rw [List.take_succ_eq_append_getElem h1, h2, pickR_app, hk]
  have : lib.findIdx? (hasF s) = none := by
    rw [List.findIdx?_eq_none_iff]
    intro x hx
    obtain ⟨j, hj⟩ := List.getElem?_of_mem hx
    exact hno j (List.getElem?_eq_some_iff.1 hj).1 x hj
  simp [pickR, this]
theorem pull_none {l lib : List Fo} (h0 : partsErr (osOf lib) = 0) (h1 : partsErr (osOf l) = 0) (h : pickR (lkL (osOf l)) lib = none) : pull l lib = (0, l) := pullE_none h0 h1 h
theorem pull_some {i : Nat} {l lib : List Fo} {f : Fo} (h0 : partsErr (osOf lib) = 0) (h1 : partsErr (osOf l) = 0) (h : pickR (lkL (osOf l)) lib = some i) (hf : lib[i]? = some f) : pull l lib = pull (l ++ [f]) (lib.eraseIdx i) := by
  unfold pull
  rw [pullE_some h0 h1 h hf, List.length_eraseIdx, if_pos (List.getElem?_eq_some_iff.1 hf).1]
  congr 1
  have := (List.getElem?_eq_some_iff.1 hf).1
  omega
end Go.Proofs.Ytplfdibbnkjckaa
