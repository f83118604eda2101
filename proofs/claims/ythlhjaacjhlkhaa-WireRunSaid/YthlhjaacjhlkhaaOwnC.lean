/- Over any program: where an append onto a slice of the call's own puts its result; a relation between worlds that keeps what was appended. -/
import Derived.Test.YthlhjaacjhlkhaaOwnB
import Derived.Test.YthlhjaacjhlkhaaFlowR
namespace Go
open Go.RowKit
set_option linter.unusedVariables false
set_option linter.unusedSimpArgs false
theorem run_append_row_at {P : Program} (w : World) (base : Nat) (t ty e : TypeId) (i : TypeInfo) (z : Value) (size bytes : Nat) (ht : P.underlying t = some (.slice e)) (hi : P.info? e = some i) (hz : i.zero = some z)
    (hsize : i.size = size) (hby : i.bytes = bytes) (hzs : z.cells.size = size) (hsz : 0 < size)
    (A0 : Option Addr) (n c0 : Nat) (xs : List Value) (hown : Row w base e size (.slice A0 n c0) n xs)
    (B : Nat) (A : Option Addr) (m c : Nat) (news : List Value) (hr : Reads w B size A m news) (h1 : ∀ u ∈ news, u.oneCell' = true)
    (h63 : n + m ≤ maxLen) (hbytes : (n + m) * bytes ≤ 140737488355328) (h0 : 0 < m) {v' : Value} {w' : World} (hrun : (Builtin.append_ #[t, t] ty #[.slice A0 n c0, .slice A m c]).run P w = .ok v' w') :
    (n + m ≤ c0 → v' = .slice A0 (n + m) c0) ∧ (¬ n + m ≤ c0 → v'.ownBlock = some w.heap.size) := by
  subst hsize
  subst hby
  have hsmall : n + m ≤ 9223372036854775807 := by simp only [maxLen] at h63; omega
  obtain ⟨b, o', rfl, _, hc⟩ := hr.2 h0
  have hnews : ∀ j u, news[j]? = some u → w.cell? ((⟨b, o', none⟩ : Addr).add j) = some u := fun j u hu => by rw [add_plain]; exact hc j u hu
  rcases hown.2 with ⟨e0, rfl⟩ | ⟨g, o, cap, cur, e0, hbg, hg, hnc, hcm, hcs, hx⟩
  · injection e0 with e1 e2 e3
    subst e1; subst e3
    have hxs : xs = [] := List.eq_nil_of_length_eq_zero (by simpa using hown.1)
    subst hxs
    have hru := run_append_nil (P := P) w t ty e i z ht hi hz ⟨b, o', none⟩ m c news hr.1 hnews h0 (by omega) (by simp only [Nat.zero_add] at hbytes; omega)
    rw [hru] at hrun
    injection hrun with hv _
    subst hv
    exact ⟨fun hh => by omega, fun _ => rfl⟩
  · injection e0 with e1 e2 e3
    subst e1; subst e3
    by_cases hroom : n + m ≤ c0
    · have hfit : o + n * i.size + news.length ≤ cur.size := by
        have : (n + m) * i.size ≤ c0 * i.size := Nat.mul_le_mul_right _ hroom
        rw [Nat.add_mul] at this
        rw [hr.1]; omega
      have hf := run_firstCells_some (P := P) w i.size m ⟨b, o', none⟩ m c news hr.1 hnews
      have hst := run_storeCells_at P g (o + n * i.size) e news 0 cur w hg (by simpa using hfit) h1
      simp only [Nat.add_zero] at hst
      have hru : (Builtin.append_ #[t, t] ty #[.slice (some ⟨g, o, none⟩) n c0, .slice (some ⟨b, o', none⟩) m c]).run P w =
          .ok (.slice (some ⟨g, o, none⟩) (n + m) c0) (w.setRow g (cur.toList.take (o + n * i.size) ++ news ++ cur.toList.drop (o + n * i.size + news.length)).toArray) := by
        simp [Builtin.append_, run_underlying ht, sizeOf, typeInfo, hi, Builtin.lenOf, hroom, hf, add_plain, hst]
      rw [hru] at hrun
      injection hrun with hv _
      subst hv
      exact ⟨fun _ => rfl, fun hh => absurd hroom hh⟩
    · have hold : ∀ j u, xs[j]? = some u → w.cell? ((⟨g, o, none⟩ : Addr).add j) = some u := fun j u hu => by
        rw [add_plain]
        have := cell_of_row w g (o + j) cur e (0, 0) hg
        rw [this]; exact hx j u hu
      have hru := run_append_grow (P := P) w t ty e i z ht hi hz ⟨g, o, none⟩ n c0 xs hown.1 hold ⟨b, o', none⟩ m c news hr.1 hnews (by omega) (by omega) (growslice_fits (by omega) hbytes)
      rw [hru] at hrun
      injection hrun with hv _
      subst hv
      exact ⟨fun hh => absurd hh hroom, fun _ => rfl⟩
/-- The result of an append onto (A0, n, c0), in a world behind one of size s0. -/
structure App (base : Nat) (e : TypeId) (size s0 : Nat) (A0 : Option Addr) (c0 k : Nat) (ys : List Value) (w : World) (A : Option Addr) (c : Nat) : Prop where
  row : Row w base e size (.slice A k c) k ys
  spot : (k ≤ c0 ∧ A = A0 ∧ c = c0) ∨ (¬ k ≤ c0 ∧ ∃ g, (Value.slice A k c).ownBlock = some g ∧ s0 ≤ g)
def AppR (base : Nat) (e : TypeId) (size s0 : Nat) (A0 : Option Addr) (c0 k : Nat) (ys : List Value) (w w' : World) : Prop :=
  ∀ A c, App base e size s0 A0 c0 k ys w A c → App base e size s0 A0 c0 k ys w' A c
theorem App.alloc {base : Nat} {e : TypeId} {size s0 : Nat} {A0 A : Option Addr} {c0 k c : Nat} {ys : List Value} {w : World} (h : App base e size s0 A0 c0 k ys w A c) (o : Obj) : App base e size s0 A0 c0 k ys (w.alloc o) A c := ⟨h.row.alloc o, h.spot⟩
theorem AppR.refl {base : Nat} {e : TypeId} {size s0 : Nat} {A0 : Option Addr} {c0 k : Nat} {ys : List Value} (w : World) : AppR base e size s0 A0 c0 k ys w w := fun _ _ h => h
theorem AppR.alloc {base : Nat} {e : TypeId} {size s0 : Nat} {A0 : Option Addr} {c0 k : Nat} {ys : List Value} (w : World) (o : Obj) : AppR base e size s0 A0 c0 k ys w (w.alloc o) := fun _ _ h => h.alloc o
/-- What was appended, as a property of a value. -/
def appSt (base : Nat) (e : TypeId) (size s0 : Nat) (A0 : Option Addr) (c0 k : Nat) (ys : List Value) : FR.St (AppR base e size s0 A0 c0 k ys) :=
  ⟨fun v w => ∃ A c, v = .slice A k c ∧ App base e size s0 A0 c0 k ys w A c, fun _ _ _ h hr => by obtain ⟨A, c, h1, h2⟩ := h; exact ⟨A, c, h1, hr A c h2⟩⟩
/-- From step to step: what was appended stays, and only the slice's own block may change. -/
def AppF (base : Nat) (e : TypeId) (size s0 : Nat) (A0 : Option Addr) (n c0 k : Nat) (ys : List Value) (w w' : World) : Prop :=
  AppR base e size s0 A0 c0 k ys w w' ∧ Fr (fun g => (Value.slice A0 n c0).ownBlock = some g) w w'
theorem AppF.grown {A0 : Option Addr} {n c0 : Nat} {w w' : World} (h : Fr (fun g => (Value.slice A0 n c0).ownBlock = some g) w w') : w.grownBy w' (Value.slice A0 n c0).ownBlock := ⟨h.os, h.tape, h.output, h.size, fun k hk hn => h.block k hk (fun e => hn e.symm)⟩
theorem App.own {base : Nat} {e : TypeId} {size s0 : Nat} {A0 A : Option Addr} {n c0 k c : Nat} {ys : List Value} {w : World} (h : App base e size s0 A0 c0 k ys w A c) : (Value.slice A k c).ownBlock = (Value.slice A0 n c0).ownBlock ∨ ∃ g, (Value.slice A k c).ownBlock = some g ∧ s0 ≤ g := by
  rcases h.spot with ⟨_, rfl, rfl⟩ | ⟨_, h⟩
  · left; cases A <;> rfl
  · exact .inr h
theorem AppF.refl {base : Nat} {e : TypeId} {size s0 : Nat} {A0 : Option Addr} {n c0 k : Nat} {ys : List Value} (w : World) : AppF base e size s0 A0 n c0 k ys w w := ⟨AppR.refl w, Fr.refl _ w⟩
theorem AppF.alloc {base : Nat} {e : TypeId} {size s0 : Nat} {A0 : Option Addr} {n c0 k : Nat} {ys : List Value} (w : World) (o : Obj) : AppF base e size s0 A0 n c0 k ys w (w.alloc o) := ⟨AppR.alloc w o, (Fr.refl _ w).alloc o⟩
def appfSt (base : Nat) (e : TypeId) (size s0 : Nat) (A0 : Option Addr) (n c0 k : Nat) (ys : List Value) : FR.St (AppF base e size s0 A0 n c0 k ys) :=
  ⟨fun v w => ∃ A c, v = .slice A k c ∧ App base e size s0 A0 c0 k ys w A c, fun _ _ _ h hr => by obtain ⟨A, c, h1, h2⟩ := h; exact ⟨A, c, h1, hr.1 A c h2⟩⟩
/-- A value that leads to cells in a block that the appends do not touch. -/
def bufSt (base : Nat) (e : TypeId) (size s0 : Nat) (A0 : Option Addr) (n c0 k : Nat) (ys : List Value) (f : Nat → Value) (cs : List Value) : FR.St (AppF base e size s0 A0 n c0 k ys) :=
  ⟨fun v w => ∃ g, v = f g ∧ (Value.slice A0 n c0).ownBlock ≠ some g ∧ s0 ≤ g ∧ g < w.heap.size ∧ ∀ i u, cs[i]? = some u → w.cell? ⟨g, i, none⟩ = some u,
  fun _ _ _ h hg => by
    obtain ⟨g, h1, h0, hs, h2, h3⟩ := h
    exact ⟨g, h1, h0, hs, Nat.lt_of_lt_of_le h2 hg.2.size, fun i u hu => (hg.2.cell (p := ⟨g, i, none⟩) h2 h0).trans (h3 i u hu)⟩⟩
theorem buf_alloc {base : Nat} {e : TypeId} {size s0 : Nat} {A0 : Option Addr} {n c0 k : Nat} {ys : List Value} (w : World) (t : TypeId) (cs : List Value) (f : Nat → Value) {ca : Array Value} (hca : ca = cs.toArray) {v : Value} (hv : v = f w.heap.size) (h0 : ∀ g, (Value.slice A0 n c0).ownBlock = some g → g < w.heap.size) (hs : s0 ≤ w.heap.size) :
    (bufSt base e size s0 A0 n c0 k ys f cs).p v (w.alloc (.cells ca t)) := hca ▸
  ⟨w.heap.size, hv, fun e' => by have := h0 _ e'; omega, hs, by simp, fun i u hu => by rw [(Blk.new w cs.toArray t).cell]; simpa using hu⟩
theorem buf_reads {w : World} {g m size : Nat} {cs : List Value} (hl : cs.length = m * size) (hg : g < w.heap.size) (h : ∀ i u, cs[i]? = some u → w.cell? ⟨g, i, none⟩ = some u) : Reads w w.heap.size size (some ⟨g, 0, none⟩) m cs :=
  ⟨hl, fun _ => ⟨g, 0, rfl, hg, fun j u hu => by rw [Nat.zero_add]; exact h j u hu⟩⟩
/-- The step of the append. -/
theorem wpList_append_row_at {P : Program} (w : World) {ops : Array Oper} {rest : List Oper} {o : Oper} {a : Act} {Q : Exit → Act → World → Prop} (hgd : o.guard = none) (s x : Operand) (t : TypeId)
    (ho : o.op = .call { callee := .builtin .append, args := #[s, x], argTypes := #[t, t] })
    (base : Nat) (e : TypeId) (i : TypeInfo) (z : Value) (size bytes : Nat) (ht : P.underlying t = some (.slice e)) (hi : P.info? e = some i) (hz : i.zero = some z)
    (hsize : i.size = size) (hby : i.bytes = bytes) (hzs : z.cells.size = size) (hsz : 0 < size)
    (A0 : Option Addr) (n c0 : Nat) (xs : List Value) (hs : a.eval s = .slice A0 n c0) (hown : Row w base e size (.slice A0 n c0) n xs)
    (B : Nat) (A : Option Addr) (m c : Nat) (news : List Value) (hx : a.eval x = .slice A m c) (hr : Reads w B size A m news) (h1 : ∀ u ∈ news, u.oneCell' = true)
    (h63 : n + m ≤ maxLen) (hbytes : (n + m) * bytes ≤ 140737488355328) (hbase : base ≤ w.heap.size) (h0 : 0 < m) (s0 : Nat) (hs0 : s0 ≤ w.heap.size) (hrow : ∀ g, (Value.slice A0 n c0).ownBlock = some g → g < s0)
    (h : ∀ A' c' w', App base e size s0 A0 c0 (n + m) (xs ++ news) w' A' c' → AppF base e size s0 A0 n c0 (n + m) (xs ++ news) w w' → Row w' base e size (.slice A0 n c0) n xs → w.grownBy w' (Value.slice A0 n c0).ownBlock → wpList P ops Q rest (a.put o.dst (.slice A' (n + m) c')) w') : wpList P ops Q (o :: rest) a w :=
  wpList_plain hgd fun K hK => by
    obtain ⟨v', w', hrun, h2, h3, h4, _⟩ := run_append_row (P := P) w base t o.type e i z size bytes ht hi hz hsize hby hzs hsz (.slice A0 n c0) n xs hown B A m c news hr h1 h63 hbytes hbase
    have h5 := run_append_row_old (P := P) w base t o.type e i z size bytes ht hi hz hsize hby hzs hsz (.slice A0 n c0) n xs hown B A m c news hr h1 h63 hbytes h0 hrun
    have h6 := run_append_row_at (P := P) w base t o.type e i z size bytes ht hi hz hsize hby hzs hsz A0 n c0 xs hown B A m c news hr h1 h63 hbytes h0 hrun
    unfold Oper.wp execOp
    simp only [ho, resolve, invoke, builtin, Sem.run_bind, Sem.run_pure, Result.andThen_ok, List.map_toArray, List.map_cons, List.map_nil, hs, hx, hrun]
    obtain ⟨A', c', rfl, _, _⟩ := h2.shape
    have hA : App base e size s0 A0 c0 (n + m) (xs ++ news) w' A' c' := by
      refine ⟨h2, ?_⟩
      by_cases hroom : n + m ≤ c0
      · have := h6.1 hroom
        injection this with e1 e2 e3
        exact .inl ⟨hroom, e1, e3⟩
      · exact .inr ⟨hroom, _, h6.2 hroom, hs0⟩
    refine hK _ _ (h A' c' w' hA ⟨fun A9 c9 h9 => ?_, Fr.of_grown h3⟩ h5 h3)
    rcases h9.spot with ⟨hroom, rfl, rfl⟩ | ⟨hroom, g, hg, hgs⟩
    · rcases hA.spot with ⟨_, rfl, rfl⟩ | ⟨hh, _⟩
      · exact hA
      · exact absurd hroom hh
    · refine ⟨h9.row.grown h3 (fun k hk e => ?_), h9.spot⟩
      have := hrow k e
      rw [hg] at hk
      injection hk with hk
      omega
end Go
