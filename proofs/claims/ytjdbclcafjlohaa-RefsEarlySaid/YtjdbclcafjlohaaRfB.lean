/- Contract of refs.Counts. -/
import Derived.Test.YtjdbclcafjlohaaRfA
import Derived.Test.YtjdbclcafjlohaaTrE
import Derived.Laws.Rows
import Derived.BigRegion
namespace Go.Proofs.Ytjdbclcafjlohaa
open Go.RowKit
set_option maxHeartbeats 400000
set_option linter.unusedVariables false
set_option linter.unusedSimpArgs false
/-- The cells of an array of 64. -/
def rowOf (f : Nat → Value) : Array Value := ((List.range 64).map f).toArray
theorem rowOf_at (f : Nat → Value) (o : Nat) (h : o < 64) : (rowOf f)[o]? = some (f o) := by simp [rowOf, h]
theorem rowOf_set (f g : Nat → Value) (o : Nat) (h : o < 64) (hg : ∀ j, j ≠ o → g j = f j) : (rowOf f).setIfInBounds o (g o) = rowOf g := by
  unfold rowOf
  rw [List.setIfInBounds_toArray]
  congr 1
  apply List.ext_getElem?
  intro j
  by_cases hj : j = o
  · subst hj
    rw [List.getElem?_set_self (by simpa using h)]
    simp [h]
  · rw [List.getElem?_set_ne (fun e => hj e.symm)]
    by_cases h64 : j < 64
    · simp [h64, hg j hj]
    · simp [h64]
theorem rowOf_size (f : Nat → Value) : (rowOf f).size = 64 := by simp [rowOf]
theorem info62 (f : Nat → Value) : (Try.prog.info? 62).map (·.size) = some (rowOf f).size := by
  rw [rowOf_size]
  kernel_rfl
theorem row_next {W : World} {g : Nat} {t : TypeId} {f f' : Nat → Value} {o : Nat} (h : W.heap[g]? = some (.cells (rowOf f) t (0, 0))) (ho : o < 64) (hf : ∀ j, j ≠ o → f' j = f j) {u : Value} (hu : u = f' o) :
    (W.setCell ⟨g, o, none⟩ u).heap[g]? = some (.cells (rowOf f') t (0, 0)) := by
  subst hu
  rw [row_set h, rowOf_set f f' o ho hf]
theorem row_same {W : World} {g : Nat} {t : TypeId} {f f' : Nat → Value} (h : W.heap[g]? = some (.cells (rowOf f) t (0, 0))) (hf : ∀ j, f' j = f j) : W.heap[g]? = some (.cells (rowOf f') t (0, 0)) := by
  rw [show f' = f from funext hf]; exact h
theorem row_other {W : World} {g g' o : Nat} {u : Value} {x : Option Obj} (h : W.heap[g]? = x) (hne : g ≠ g') : (W.setCell ⟨g', o, none⟩ u).heap[g]? = x := (Below.heap_setCell W ⟨g', o, none⟩ u g hne).trans h
theorem row_alloc {W : World} {g : Nat} {x : Obj} (h : W.heap[g]? = some x) (X : Obj) : (W.alloc X).heap[g]? = some x := ((Grow.alloc W X).block g (Array.getElem?_eq_some_iff.1 h).1).trans h
theorem row_cell {W : World} {g o : Nat} {t : TypeId} {f : Nat → Value} (h : W.heap[g]? = some (.cells (rowOf f) t (0, 0))) (ho : o < 64) : W.cell? ⟨g, o, none⟩ = some (f o) ∧ W.frozen? ⟨g, o, none⟩ = false ∧ g < W.heap.size :=
  ⟨by rw [cell_of_row W g o _ t (0, 0) h, rowOf_at f o ho], frozen_of_row W g o _ t h, (Array.getElem?_eq_some_iff.1 h).1⟩
theorem st1_other {r : Rc} {i p : Nat} {s : Bool × Int} (hr : r.o = i) (hp : p ≠ i) : st1 p s r = s := by unfold st1; rw [if_neg (by omega)]
theorem run_index62 (w : World) (cs : Array Value) (j : Nat) (b : Bool) (hj : j < 64) (h : cs[j]? = some (.bool b)) : (Instr.index 62 (.agg cs) (.int .i64 j)).run Try.prog w = .ok (.bool b) w := by
  have h0 : (0 : Int) ≤ j ∧ (j : Int) < (64 : Nat) := by omega
  simp [Instr.index, run_underlying Try.underlying62, asIntOf, h0, go_sem, part, h]
  intro h64
  omega
def ArrRel (w w1 : World) (rs : List Rc) (k : Nat) (wr : World) : Prop :=
  wr.heap[w1.heap.size]? = some (.cells (rowOf fun o => .bool (stOf (rs.take k) o).1) 62 (0, 0)) ∧ wr.heap[w1.heap.size + 1]? = some (.cells (rowOf fun o => .int .i64 (stOf (rs.take k) o).2) 63 (0, 0)) ∧ Below w.heap.size w wr
theorem ArrRel.drew {w w1 wr : World} {rs : List Rc} {k : Nat} (h : ArrRel w w1 rs k wr) : ArrRel w w1 rs k wr.drew := ⟨h.1, h.2.1, h.2.2.drew⟩
theorem ArrRel.start {w w1 : World} (rs : List Rc) (hb : Below w.heap.size w w1) : ArrRel w w1 rs 0 ((w1.alloc (.cells (rowOf fun _ => .bool false) 62)).alloc (.cells (rowOf fun _ => .int .i64 0) 63)) := by
  refine ⟨?_, ?_, (hb.alloc hb.size _).alloc (by simp; exact Nat.le_succ_of_le hb.size) _⟩
  · have h1 := heap_alloc_new w1 (.cells (rowOf fun _ => .bool false) 62)
    have h2 := (Grow.alloc (w1.alloc (.cells (rowOf fun _ => .bool false) 62)) (.cells (rowOf fun _ => .int .i64 0) 63)).block w1.heap.size (by simp)
    rw [h2, h1]
    rfl
  · have h1 := heap_alloc_new (w1.alloc (.cells (rowOf fun _ => .bool false) 62)) (.cells (rowOf fun _ => .int .i64 0) 63)
    rw [World.size_alloc] at h1
    rw [h1]
    rfl
set_option maxHeartbeats 4000000 in
set_option maxRecDepth 100000 in
theorem counts_any (A : Option Addr) (n c : Nat) (rs : List Rc) (w : World) (B : Nat) (h : RR w B A n rs) (hB : B ≤ w.heap.size) (hn : n ≤ 9223372036854775807) :
    Calls Try.prog 20 #[.slice A n c] w (CntPost w rs) := by
  have HL := Lib.hid h.2
  by_cases ht : traceErr rs = 0
  · obtain ⟨hsm, hgd⟩ := traceErr_good ht
    have hsm' : n ≤ 400 := by rw [HL.out] at hsm; exact hsm
    have HT := Lib.hid ht
    have HG := Lib.hid hgd
    clear hsm hgd
    obtain ⟨i0, hi0, hz0, hz1, hz2⟩ := info_parts cntinfo
    go_enter Try.func20, Try.ntmps20
    go_wp2_with (go_at_call 38; refine (checked_any A n c rs _ B h hB hn).mono ?_; rintro e w1 ⟨rfl, hb1⟩; rw [ht])
    clear ht
    have hrel0 := ArrRel.start rs hb1
    go_loopw [19] (fun i wr => ∃ k : Nat, k ≤ n ∧ i = .int .i64 k ∧ ArrRel w w1 rs k wr) (fun i _ => n - (intOf i).toNat)
    case atStart => exact ⟨0, by omega, rfl, hrel0⟩
    case round =>
      obtain ⟨k, hk, rfl, ha5, ha6, hbw⟩ := hrel
      clear hrel0
      by_cases hlt : k < n
      · obtain ⟨b, o, rfl, hb, c0, c1, c2, c3⟩ := (h.below' hbw hB).at_ hlt
        have hT := Lib.hid (stOf_take rs k (by rw [HL.out]; exact hlt))
        have hbd := fun p => stOf_bound rs p k (by rw [HL.out]; exact hk)
        have he := HG.out k (by rw [HL.out]; exact hlt)
        generalize rs.getD k .zero = r at *
        have hgd := Rc.good he
        obtain ⟨i, hi⟩ : ∃ i : Nat, r.o = i := ⟨r.o.toNat, by omega⟩
        have hi64 : i < 64 := by omega
        have hi64' : (i : Int) < 64 := by omega
        obtain ⟨d5, f5, l5⟩ := row_cell ha5 hi64
        obtain ⟨d6, f6, l6⟩ := row_cell ha6 hi64
        have hbi := hbd i
        clear hbd he
        have hb1s := hb1.size
        by_cases h5 : r.k = 5
        · go_wp2
          go_region
          go_wp2
          go_roundw
          case rel =>
            refine ⟨k + 1, by omega, by go_num, ArrRel.drew ⟨row_alloc (row_other (row_next ha5 hi64 (fun j hj => by rw [hT.out, st1_other hi hj]) ?_) (by omega)) _, row_alloc (row_next (row_other ha6 (by omega)) hi64 (fun j hj => by rw [hT.out, st1_other hi hj]) ?_) _,
              ((hbw.setCell (by show _ ≤ w1.heap.size; omega) _).setCell (by show _ ≤ w1.heap.size + 1; omega) _).alloc (by simpa using hbw.size) _⟩⟩
            · rw [hT.out]; simp [st1, stp, h5, hi]
            · rw [hT.out]; simp [st1, stp, h5, hi]
          case measure => simp [intOf]; omega
        by_cases h6 : r.k = 6
        · go_wp2
          go_roundw
          case rel =>
            refine ⟨k + 1, by omega, by go_num, row_alloc (row_same (row_other ha5 (by omega)) fun j => ?_) _, row_alloc (row_next ha6 hi64 (fun j hj => by rw [hT.out, st1_other hi hj]) ?_) _, (hbw.setCell (by show _ ≤ w1.heap.size + 1; omega) _).alloc (by simpa using hbw.size) _⟩
            · rw [hT.out]; simp [st1, stp, h6]; split <;> rfl
            · rw [hT.out]; simp [st1, stp, h6, hi]
          case measure => simp [intOf]; omega
        by_cases h7 : r.k = 7
        · go_wp2
          go_roundw
          case rel =>
            refine ⟨k + 1, by omega, by go_num, row_alloc (row_same (row_other ha5 (by omega)) fun j => ?_) _, row_alloc (row_next ha6 hi64 (fun j hj => by rw [hT.out, st1_other hi hj]) ?_) _, (hbw.setCell (by show _ ≤ w1.heap.size + 1; omega) _).alloc (by simpa using hbw.size) _⟩
            · rw [hT.out]; simp [st1, stp, h7]; split <;> rfl
            · rw [hT.out]; simp [st1, stp, h7, hi]
          case measure => simp [intOf]; omega
        by_cases h9 : r.k = 9
        · go_wp2
          go_roundw
          case rel =>
            refine ⟨k + 1, by omega, by go_num, row_alloc (row_next ha5 hi64 (fun j hj => by rw [hT.out, st1_other hi hj]) ?_) _, row_alloc (row_same (row_other ha6 (by omega)) fun j => ?_) _, (hbw.setCell (by show _ ≤ w1.heap.size; omega) _).alloc (by simpa using hbw.size) _⟩
            · rw [hT.out]; simp [st1, stp, h9, hi]
            · rw [hT.out]; simp [st1, stp, h9]; split <;> rfl
          case measure => simp [intOf]; omega
        go_wp2
        go_roundw
        case rel =>
          refine ⟨k + 1, by omega, by go_num, row_alloc (row_same ha5 fun j => ?_) _, row_alloc (row_same ha6 fun j => ?_) _, hbw.alloc hbw.size _⟩
          · rw [hT.out]; simp [st1, stp, h5, h6, h7, h9]
          · rw [hT.out]; simp [st1, stp, h5, h6, h7, h9]
        case measure => simp [intOf]; omega
      · go_wp2_with (refine wpList_load_row rfl 62 (.tmp 5) rfl w1.heap.size rfl 62 _ (0, 0) _ ha5 Try.underlying62 rfl (info62 _) ?_)
        rw [List.take_of_length_le (by rw [HL.out]; omega)] at ha5 ha6 ⊢
        have hl6 := (row_cell ha6 (show 0 < 64 by omega)).2.2
        rename World => w0
        go_loopw [9, 56] (fun v i wr => ∃ j : Nat, j ≤ 64 ∧ i = .int .i64 j ∧ CntRel w0 rs j v wr) (fun _ i _ => 64 - (intOf i).toNat)
        case atStart => exact ⟨0, by omega, rfl, ⟨World.ownsRow_nil _ _ _ _, Below.refl _ _⟩⟩
        case round =>
          obtain ⟨j, hj, rfl, hown, hb0⟩ := hrel
          by_cases hj64 : j < 64
          · have d6 := (row_cell ((hb0.block _ hl6).trans ha6) hj64).1
            have d5 := rowOf_at (fun o => .bool (stOf rs o).1) j hj64
            have hS := Lib.hid (cnt_succ rs j)
            have hcl := cnt_len rs j
            have hjz : (j : Int) < 64 := by omega
            have hbww := hbw.trans (hb0.mono hbw.size)
            generalize hs : stOf rs j = s at *
            obtain ⟨sb, sn⟩ := s
            dsimp only at d5 d6
            have d5' := run_index62 wr _ j sb hj64 d5
            clear d5
            clear hs
            cases sb
            · go_wp2
              go_roundw
              case rel => exact ⟨j + 1, by omega, by go_num, ⟨by rw [hS.out]; simpa using hown, hb0⟩⟩
              case measure => simp [intOf]; omega
            · go_wp2_with (at_builtin; refine wpList_append_reads _ rfl (.tmp 61) (.tmp 67) _ rfl w0.heap.size 40 i0 _ 2 16 Try.underlying36 hi0 hz0 hz1 hz2 rfl (by omega) _ (cnt rs j).length _ rfl (hown.alloc _) _ (some ⟨wr.heap.size, 0, none⟩) 1 1 (cntCells [((j : Int), sn)]) rfl (reads_new2 wr j sn 40) (cnt_oneCell _) (by simp only [maxLen]; omega) (by omega) (by simp; exact Nat.le_succ_of_le hb0.size) ?_; intro v4 w6 hown6 hgr6 hob6)
              go_roundw
              case rel => exact ⟨j + 1, by omega, by go_num, ⟨by rw [hS.out]; simpa [cntCells_append] using hown6, (hb0.alloc hb0.size _).grown hgr6 (by simp; exact Nat.le_succ_of_le hb0.size) fun g hgg => (hown.lt g hgg).1⟩⟩
              case measure => simp [intOf]; omega
          · obtain rfl : j = 64 := by omega
            obtain ⟨A', c', rfl, -⟩ := own_shape hown
            go_wp2
            go_ret2
            exact .good HT.out (Reads.of_own hown) (hbw.trans (hb0.mono hbw.size))
  · have ht' : (traceErr rs != 0) = true := by simpa using ht
    go_enter Try.func20, Try.ntmps20
    go_wp2_with (go_at_call 38; refine (checked_any A n c rs _ B h hB hn).mono ?_; rintro e w1 ⟨rfl, hb1⟩)
    go_ret2
    exact .bad ht hb1
end Go.Proofs.Ytjdbclcafjlohaa
