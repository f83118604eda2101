/- Over any program: append onto a slice of the call's own that has room, and clear of its end. -/
import Derived.Test.YthlhjaacjhlkhaaOwn
import Derived.Lib.SliceRun
namespace Go
open Go.RowKit
set_option linter.unusedVariables false
set_option linter.unusedSimpArgs false
theorem run_append_inrow {P : Program} (w : World) (base : Nat) (t ty e : TypeId) (i : TypeInfo) (size : Nat) (ht : P.underlying t = some (.slice e)) (hi : P.info? e = some i)
    (hsize : i.size = size) (hsz : 0 < size) (g o n c : Nat) (xs : List Value) (hown : Row w base e size (.slice (some ⟨g, o, none⟩) n c) n xs)
    (B : Nat) (A : Option Addr) (m c' : Nat) (news : List Value) (hr : Reads w B size A m news) (h1 : ∀ u ∈ news, u.oneCell' = true) (hroom : n + m ≤ c) :
    ∃ w', (Builtin.append_ #[t, t] ty #[.slice (some ⟨g, o, none⟩) n c, .slice A m c']).run P w = .ok (.slice (some ⟨g, o, none⟩) (n + m) c) w' ∧ Row w' base e size (.slice (some ⟨g, o, none⟩) (n + m) c) (n + m) (xs ++ news) ∧ w.grownBy w' (some g) := by
  subst hsize
  have hlen : (xs ++ news).length = (n + m) * i.size := by rw [List.length_append, hown.1, hr.1, Nat.add_mul]
  rcases hown.2 with ⟨e1, _⟩ | ⟨g1, o1, cap, cur, e1, hbg, hg, hnc, hcm, hcs, hx⟩
  · injection e1 with e1; cases e1
  injection e1 with e1 e2 e3
  injection e1 with e1
  injection e1 with e1 e4
  subst e1; subst e4; subst e3
  rcases Nat.eq_zero_or_pos m with h0 | h0
  · subst h0
    have hn : news = [] := List.eq_nil_of_length_eq_zero (by simpa using hr.1)
    subst hn
    refine ⟨w, ?_, by simpa using hown, World.grownBy.refl w _⟩
    cases A <;> simp [Builtin.append_, run_underlying ht, sizeOf, typeInfo, hi, Builtin.lenOf, Builtin.firstCells, hnc, storeCells, loadCells, loadCellsFrom]
  · obtain ⟨b, o', rfl, _, hc⟩ := hr.2 h0
    have hnews : ∀ j u, news[j]? = some u → w.cell? ((⟨b, o', none⟩ : Addr).add j) = some u := fun j u hu => by rw [add_plain]; exact hc j u hu
    have hfit : o + n * i.size + news.length ≤ cur.size := by
      have : (n + m) * i.size ≤ c * i.size := Nat.mul_le_mul_right _ hroom
      rw [Nat.add_mul] at this
      rw [hr.1]; omega
    have hf := run_firstCells_some (P := P) w i.size m ⟨b, o', none⟩ m c' news hr.1 hnews
    have hst := run_storeCells_at P g (o + n * i.size) e news 0 cur w hg (by simpa using hfit) h1
    simp only [Nat.add_zero] at hst
    refine ⟨_, by simp [Builtin.append_, run_underlying ht, sizeOf, typeInfo, hi, Builtin.lenOf, hroom, hf, add_plain, hst]; rfl, ⟨hlen, .inr ⟨g, o, c, _, rfl, hbg, setRow_heap w g cur _ e _ hg, hroom, hcm, ?_, fun j u hu => ?_⟩⟩, ⟨rfl, rfl, rfl, by simp, fun k _ hk => setRow_other w g k _ (fun e => hk (by simp [e]))⟩⟩
    · simp only [List.size_toArray, List.length_append, List.length_take, List.length_drop, Array.length_toList]
      omega
    · have hl1 : (cur.toList.take (o + n * i.size)).length = o + n * i.size := by rw [List.length_take, Array.length_toList]; omega
      rw [List.getElem?_toArray]
      try rw [List.append_assoc]
      by_cases hj : j < xs.length
      · rw [List.getElem?_append_left hj] at hu
        have := hx j u hu
        rw [List.getElem?_append_left (by rw [hl1]; have := hown.1; omega), List.getElem?_take, if_pos (by have := hown.1; omega)]
        simpa using this
      · rw [List.getElem?_append_right (by omega)] at hu
        have hxl := hown.1
        have hjn : j - xs.length < news.length := (List.getElem?_eq_some_iff.1 hu).1
        rw [List.getElem?_append_right (by rw [hl1]; omega), hl1, List.getElem?_append_left (by omega)]
        rw [← hu]; congr 1; omega
theorem step_append_inrow {P : Program} {ops : Array Oper} {o : Oper} {a : Act} {w : World} {K : Act → World → Prop} {Q : Exit → Act → World → Prop} {E : Prop} (hgd : o.guard = none) (s x : Operand) (t : TypeId)
    (ho : o.op = .call { callee := .builtin .append, args := #[s, x], argTypes := #[t, t] })
    (base : Nat) (e : TypeId) (i : TypeInfo) (size : Nat) (ht : P.underlying t = some (.slice e)) (hi : P.info? e = some i)
    (hsize : i.size = size) (hsz : 0 < size) (g of n c : Nat) (xs : List Value) (hs : a.eval s = .slice (some ⟨g, of, none⟩) n c) (hown : Row w base e size (.slice (some ⟨g, of, none⟩) n c) n xs)
    (B : Nat) (A : Option Addr) (m c' : Nat) (news : List Value) (hx : a.eval x = .slice A m c') (hr : Reads w B size A m news) (h1 : ∀ u ∈ news, u.oneCell' = true) (hroom : n + m ≤ c)
    (h : ∀ w', Row w' base e size (.slice (some ⟨g, of, none⟩) (n + m) c) (n + m) (xs ++ news) → w.grownBy w' (some g) → K (a.put o.dst (.slice (some ⟨g, of, none⟩) (n + m) c)) w') :
    if Region.wanted o (yielded ops a.tmps) = true then Oper.wp P o a w K Q else E := by
  have hw : Region.wanted o (yielded ops a.tmps) = true := by simp [Region.wanted, hgd]
  rw [if_pos hw]
  obtain ⟨w', hrun, h2, h3⟩ := run_append_inrow (P := P) w base t o.type e i size ht hi hsize hsz g of n c xs hown B A m c' news hr h1 hroom
  unfold Oper.wp execOp
  simp only [ho, resolve, invoke, builtin, Sem.run_bind, Sem.run_pure, Result.andThen_ok, List.map_toArray, List.map_cons, List.map_nil, hs, hx, hrun]
  exact h w' h2 h3
theorem zeroCells_mem {zs : Array Value} {n : Nat} {u : Value} (h : u ∈ (Builtin.zeroCells zs n).toList) (hp : 0 < zs.size) : u ∈ zs.toList := by
  simp [Builtin.zeroCells] at h
  obtain ⟨a, ha, rfl⟩ := h
  have : a % zs.size < zs.size := Nat.mod_lt _ hp
  rw [getElem!_pos zs _ this]
  simp
/-- clear of the k elements behind a row's n. -/
theorem run_clear_row {P : Program} (w : World) (base : Nat) (t e : TypeId) (z : Value) (size : Nat) (ht : P.underlying t = some (.slice e)) (hv : ∀ w, (zeroValue e).run P w = .ok z w) (hzs : z.cells.size = size) (hsz : 0 < size)
    (h1 : ∀ u ∈ z.cells.toList, u.oneCell' = true) (g o n c k c' : Nat) (xs : List Value) (hown : Row w base e size (.slice (some ⟨g, o, none⟩) n c) n xs) (hk : 0 < k) (hroom : n + k ≤ c) :
    ∃ w', (∀ ty, (Builtin.clear_ #[t] ty #[.slice (some ⟨g, o + n * size, none⟩) k c']).run P w = .ok (.tuple #[]) w') ∧ Row w' base e size (.slice (some ⟨g, o, none⟩) n c) n xs ∧ w.grownBy w' (some g) := by
  rcases hown.2 with ⟨e1, _⟩ | ⟨g1, o1, cap, cur, e1, hbg, hg, hnc, hcm, hcs, hx⟩
  · injection e1 with e1; cases e1
  injection e1 with e1 e2 e3
  injection e1 with e1
  injection e1 with e1 e4
  subst e1; subst e4; subst e3
  have hzl : (Builtin.zeroCells z.cells k).toList.length = k * size := by simp [size_zeroCells, hzs]
  have hfit : o + n * size + (Builtin.zeroCells z.cells k).toList.length ≤ cur.size := by
    have : (n + k) * size ≤ c * size := Nat.mul_le_mul_right _ hroom
    rw [Nat.add_mul] at this
    rw [hzl]; omega
  have hst := run_storeCells_at P g (o + n * size) e (Builtin.zeroCells z.cells k).toList 0 cur w hg (by simpa using hfit) (fun u hu => h1 u (zeroCells_mem hu (by omega)))
  simp only [Nat.add_zero] at hst
  obtain ⟨m, rfl⟩ : ∃ m, k = m + 1 := ⟨k - 1, by omega⟩
  refine ⟨_, fun ty => by simp [Builtin.clear_, run_underlying ht, hv, hst]; rfl, ⟨hown.1, .inr ⟨g, o, c, _, rfl, hbg, setRow_heap w g cur _ e _ hg, hnc, hcm, ?_, fun j u hu => ?_⟩⟩, ⟨rfl, rfl, rfl, by simp, fun k _ hk => setRow_other w g k _ (fun e => hk (by simp [e]))⟩⟩
  · simp only [List.size_toArray, List.length_append, List.length_take, List.length_drop, Array.length_toList]
    simp only [Array.length_toList] at hfit
    omega
  · have hl1 : (cur.toList.take (o + n * size)).length = o + n * size := by rw [List.length_take, Array.length_toList]; omega
    have hj : j < n * size := by rw [← hown.1]; exact (List.getElem?_eq_some_iff.1 hu).1
    rw [List.getElem?_toArray]; (try rw [List.append_assoc]); rw [List.getElem?_append_left (by rw [hl1]; omega), List.getElem?_take, if_pos (by omega)]
    simpa using hx j u hu
end Go
