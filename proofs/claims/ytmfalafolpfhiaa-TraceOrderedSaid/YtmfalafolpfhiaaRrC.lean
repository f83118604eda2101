/- Arrays of 64 marks, edges in memory; contract of ringref4.EdgesFault. -/
import Derived.Test.YtmfalafolpfhiaaRrB
import Derived.Test.YtmfalafolpfhiaaFlow
namespace Go.Proofs.Ytmfalafolpfhiaa
open Go.RowKit Go.Maps
set_option maxHeartbeats 400000
set_option linter.unusedVariables false
set_option linter.unusedSimpArgs false
theorem row_set39 {w : World} {g : Nat} {cs : Array Value} {t : TypeId} (h : w.heap[g]? = some (.cells cs t (0, 0))) (i : Nat) (u : Value) : (w.setCell ⟨g, i, none⟩ u).heap[g]? = some (.cells (cs.setIfInBounds i u) t (0, 0)) := by
  simp [World.setCell, Array.getElem?_modify, h]
/-- The cells of an array of 64. -/
def rowOf (f : Nat → Value) : Array Value := ((List.range 64).map f).toArray
theorem rowOf_at (f : Nat → Value) (o : Nat) (h : o < 64) : (rowOf f)[o]? = some (f o) := by simp [rowOf, h]
theorem rowOf_set (f g : Nat → Value) (o : Nat) (h : o < 64) (hg : ∀ j, j ≠ o → g j = f j) : (rowOf f).setIfInBounds o (g o) = rowOf g := by
  unfold rowOf
  rw [List.setIfInBounds_toArray]
  congr 1
  apply List.ext_getElem?
  intro j
  by_cases hj : j = o
  · subst hj
    rw [List.getElem?_set_self (by simpa using h)]
    simp [h]
  · rw [List.getElem?_set_ne (fun e => hj e.symm)]
    by_cases h64 : j < 64
    · simp [h64, hg j hj]
    · simp [h64]
theorem rowOf_size (f : Nat → Value) : (rowOf f).size = 64 := by simp [rowOf]
theorem info39 (f : Nat → Value) : (Try.prog.info? 39).map (·.size) = some (rowOf f).size := by
  rw [rowOf_size]
  kernel_rfl
theorem row_next {W : World} {g : Nat} {t : TypeId} {f f' : Nat → Value} {o : Nat} (h : W.heap[g]? = some (.cells (rowOf f) t (0, 0))) (ho : o < 64) (hf : ∀ j, j ≠ o → f' j = f j) {u : Value} (hu : u = f' o) :
    (W.setCell ⟨g, o, none⟩ u).heap[g]? = some (.cells (rowOf f') t (0, 0)) := by
  subst hu
  rw [row_set39 h, rowOf_set f f' o ho hf]
theorem row_same {W : World} {g : Nat} {t : TypeId} {f f' : Nat → Value} (h : W.heap[g]? = some (.cells (rowOf f) t (0, 0))) (hf : ∀ j, f' j = f j) : W.heap[g]? = some (.cells (rowOf f') t (0, 0)) := by
  rw [show f' = f from funext hf]; exact h
theorem row_other {W : World} {g g' o : Nat} {u : Value} {x : Option Obj} (h : W.heap[g]? = x) (hne : g ≠ g') : (W.setCell ⟨g', o, none⟩ u).heap[g]? = x := (Below.heap_setCell W ⟨g', o, none⟩ u g hne).trans h
theorem row_alloc {W : World} {g : Nat} {x : Obj} (h : W.heap[g]? = some x) (X : Obj) : (W.alloc X).heap[g]? = some x := ((Grow.alloc W X).block g (Array.getElem?_eq_some_iff.1 h).1).trans h
theorem row_cell {W : World} {g o : Nat} {t : TypeId} {f : Nat → Value} (h : W.heap[g]? = some (.cells (rowOf f) t (0, 0))) (ho : o < 64) : W.cell? ⟨g, o, none⟩ = some (f o) ∧ W.frozen? ⟨g, o, none⟩ = false ∧ g < W.heap.size :=
  ⟨by rw [cell_of_row W g o _ t (0, 0) h, rowOf_at f o ho], frozen_of_row W g o _ t h, (Array.getElem?_eq_some_iff.1 h).1⟩
theorem run_index39 (w : World) (cs : Array Value) (j : Nat) (b : Bool) (hj : j < 64) (h : cs[j]? = some (.bool b)) : (Instr.index 39 (.agg cs) (.int .i64 j)).run Try.prog w = .ok (.bool b) w := by
  have h0 : (0 : Int) ≤ j ∧ (j : Int) < (64 : Nat) := by omega
  simp [Instr.index, run_underlying Try.underlying39, asIntOf, h0, go_sem, part, h]
  intro h64
  omega
/-- Block g is an array of 64 marks. -/
def Arr64 (W : World) (g : Nat) (f : Nat → Bool) : Prop := W.heap[g]? = some (.cells (rowOf fun o => .bool (f o)) 39 (0, 0))
theorem Arr64.fr {F : Nat → Prop} {W W' : World} {g : Nat} {f : Nat → Bool} (h : Arr64 W g f) (hf : Fr F W W') (hn : ¬ F g) : Arr64 W' g f := (hf.block g (lt_blk h) hn).trans h
theorem Arr64.grow {W W' : World} {g : Nat} {f : Nat → Bool} (h : Arr64 W g f) (hb : Below W.heap.size W W') : Arr64 W' g f := h.fr (Fr.of_grow hb) (fun h => h)
theorem Arr64.start (w : World) : Arr64 (w.alloc (.cells (rowOf fun _ => .bool false) 39)) w.heap.size (fun _ => false) := heap_alloc_new w _
theorem Arr64.set {W : World} {g o : Nat} {f : Nat → Bool} (h : Arr64 W g f) (ho : o < 64) : Arr64 (W.setCell ⟨g, o, none⟩ (.bool true)) g (setB f o) :=
  row_next (f' := fun j => .bool (setB f o j)) h ho (fun j hj => by simp [setB, hj]) (by simp [setB])
theorem Arr64.ne {W : World} {g B n : Nat} {f : Nat → Bool} {v : Value} {xs : List Value} (h : Arr64 W g f) (hr : Row W B 3 1 v n xs) : v.ownBlock ≠ some g := by
  intro he
  rcases hr.2 with ⟨rfl, _⟩ | ⟨g', o, cap, cur, rfl, _, hh, _⟩
  · simp [Value.ownBlock] at he
  · have : g' = g := by simpa [Value.ownBlock] using he
    subst this
    unfold Arr64 at h
    rw [h] at hh
    injection hh with hh
    injection hh with _ ht
    exact absurd ht (by decide)
/-! edges -/
def edgeCl (e : Int × Int) : List Value := [.int .i64 e.1, .int .i64 e.2]
def RE (w : World) (B : Nat) (A : Option Addr) (n : Nat) (es : List (Int × Int)) : Prop := RS edgeCl 2 w B A n es
theorem RE.at_ {w : World} {B n k : Nat} {A : Option Addr} {es : List (Int × Int)} (h : RE w B A n es) (hk : k < n) : ∃ b o, A = some ⟨b, o, none⟩ ∧ b < B ∧ w.cell? ⟨b, o + k * 2, none⟩ = some (.int .i64 (es.getD k (0, 0)).1) ∧ w.cell? ⟨b, o + k * 2 + 1, none⟩ = some (.int .i64 (es.getD k (0, 0)).2) := by
  obtain ⟨b, o, e, hb, hm, hc⟩ := RS.at_ (cl := edgeCl) (s := 2) (fun _ => rfl) (0, 0) h hk
  exact ⟨b, o, e, hb, hc 0 _ rfl, hc 1 _ rfl⟩
def OkE (e : Int × Int) : Prop := OkN e.1 ∧ OkN e.2
theorem all_at {p : Int × Int → Prop} {es : List (Int × Int)} (h : ∀ j, j < es.length → p (es.getD j (0, 0))) : ∀ e ∈ es, p e := by
  intro e he
  obtain ⟨j, hj, rfl⟩ := List.getElem_of_mem he
  have := h j hj
  simpa [List.getD, List.getElem?_eq_getElem hj] using this
theorem all_atI {p : Int → Prop} {es : List Int} (h : ∀ j, j < es.length → p (es.getD j 0)) : ∀ e ∈ es, p e := by
  intro e he
  obtain ⟨j, hj, rfl⟩ := List.getElem_of_mem he
  have := h j hj
  simpa [List.getD, List.getElem?_eq_getElem hj] using this
theorem getD_memE {es : List (Int × Int)} {j : Nat} (h : j < es.length) : es.getD j (0, 0) ∈ es := by
  simp [List.getD, List.getElem?_eq_getElem h]
theorem getD_memI {es : List Int} {j : Nat} (h : j < es.length) : es.getD j 0 ∈ es := by
  simp [List.getD, List.getElem?_eq_getElem h]
open Classical in
noncomputable def edgesErr (es : List (Int × Int)) : Int := if ∀ e ∈ es, OkE e then 0 else 1
set_option maxHeartbeats 2000000 in
set_option maxRecDepth 100000 in
theorem edgesFault_any (A : Option Addr) (n c : Nat) (es : List (Int × Int)) (w : World) (B : Nat) (h : RE w B A n es) (hB : B ≤ w.heap.size) (hn : n ≤ 9223372036854775807) :
    Calls Try.prog 14 #[.slice A n c] w fun e w' => e = .returned (.int .i64 (edgesErr es)) ∧ Below w.heap.size w w' := by
  have HL := Lib.hid h.2
  go_enter Try.func14, Try.ntmps14
  go_wp2
  go_loopw [7] (fun i wr => ∃ k : Nat, k ≤ n ∧ i = .int .i64 k ∧ Hid (∀ j, j < k → OkE (es.getD j (0, 0))) ∧ Below w.heap.size w wr) (fun i _ => n - (intOf i).toNat)
  case atStart => exact ⟨0, by omega, rfl, Lib.hid (fun j hj => by omega), Below.refl _ _⟩
  case round =>
    obtain ⟨k, hk, rfl, hok, hbw⟩ := hrel
    by_cases hlt : k < n
    · obtain ⟨b, o, rfl, hb, k0, k1⟩ := RE.at_ (RS.below' h hbw hB) hlt
      have hkn : (k : Int) < n := by omega
      have hbr : b < wr.heap.size := by have := hbw.size; omega
      have HNX := Lib.hid (fun y => sl_next (p := fun j => OkE (es.getD j (0, 0))) hok.out y)
      have HBAD : Hid (¬ OkE (es.getD k (0, 0)) → edgesErr es = 1) := Lib.hid (fun hx => if_neg (fun hall => hx (hall _ (getD_memE (by rw [HL.out]; exact hlt)))))
      generalize es.getD k (0, 0) = e at *
      obtain ⟨a, z⟩ := e
      dsimp only at k0 k1
      have HBW := Lib.hid (hbw.trans (((Below.refl _ wr).alloc (Nat.le_refl _) (.cells #[.int .i64 a, .int .i64 z] 37)).mono hbw.size))
      clear hbw hok
      by_cases h1 : a < 0
      · have d1 : decide (a < 0) = true := by simpa using h1
        have HE := Lib.hid (HBAD.out (fun hx => by have := hx.1.1; dsimp only at this; omega))
        clear h1
        go_wp2
        go_ret
        exact ⟨sl_int HE.out.symm, HBW.out⟩
      have d1 : decide (a < 0) = false := by simpa using h1
      by_cases h2 : 63 < a
      · have d2 : decide (63 < a) = true := by simpa using h2
        have HE := Lib.hid (HBAD.out (fun hx => by have := hx.1.2; dsimp only at this; omega))
        clear h1 h2
        go_wp2
        go_ret
        exact ⟨sl_int HE.out.symm, HBW.out⟩
      have d2 : decide (63 < a) = false := by simpa using h2
      by_cases h3 : z < 0
      · have d3 : decide (z < 0) = true := by simpa using h3
        have HE := Lib.hid (HBAD.out (fun hx => by have := hx.2.1; dsimp only at this; omega))
        clear h1 h2 h3
        go_wp2
        go_ret
        exact ⟨sl_int HE.out.symm, HBW.out⟩
      have d3 : decide (z < 0) = false := by simpa using h3
      by_cases h4 : 63 < z
      · have d4 : decide (63 < z) = true := by simpa using h4
        have HE := Lib.hid (HBAD.out (fun hx => by have := hx.2.2; dsimp only at this; omega))
        clear h1 h2 h3 h4
        go_wp2
        go_ret
        exact ⟨sl_int HE.out.symm, HBW.out⟩
      have d4 : decide (63 < z) = false := by simpa using h4
      have HN2 := Lib.hid (HNX.out ⟨⟨by show 0 ≤ a; omega, by show a ≤ 63; omega⟩, ⟨by show 0 ≤ z; omega, by show z ≤ 63; omega⟩⟩)
      clear h1 h2 h3 h4 HNX HBAD
      go_wp2
      go_roundw
      case rel => exact ⟨k + 1, by omega, by go_num, HN2, HBW.out⟩
      case measure => simp [intOf]; omega
    · obtain rfl : k = n := by omega
      have HBW := Lib.hid hbw
      have HE : Hid (edgesErr es = 0) := Lib.hid (if_pos (all_at (p := OkE) (by rw [HL.out]; exact hok.out)))
      clear hbw hok
      go_wp2
      go_ret
      exact ⟨sl_int HE.out.symm, HBW.out⟩
end Go.Proofs.Ytmfalafolpfhiaa
