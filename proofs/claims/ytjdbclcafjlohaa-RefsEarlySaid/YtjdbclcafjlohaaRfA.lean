/- How often a thing is held: the plain law, and the contracts of refs.checked and ringref4.RefCounts. -/
import Derived.Test.YtjdbclcafjlohaaTrC
namespace Go.Proofs.Ytjdbclcafjlohaa
open Go.RowKit
set_option maxHeartbeats 400000
set_option linter.unusedVariables false
set_option linter.unusedSimpArgs false
theorem checked_any (A : Option Addr) (n c : Nat) (rs : List Rc) (w : World) (B : Nat) (h : RR w B A n rs) (hB : B ≤ w.heap.size) (hn : n ≤ 9223372036854775807) :
    Calls Try.prog 38 #[.slice A n c] w fun e w' => e = .returned (.int .i64 (traceErr rs)) ∧ Below w.heap.size w w' := by
  go_enter Try.func38, Try.ntmps38
  go_wp2_with fail
  refine (encode_any A n c rs _ B h hB hn).mono ?_
  rintro e w1 ⟨A1, m1, c1, rfl, hr1, hb1⟩
  clear hr1
  go_wp2
  go_ret
  exact ⟨rfl, hb1⟩
/-- What one record does to a thing: is it there, how often is it held. -/
def stp (s : Bool × Int) (k : Int) : Bool × Int := if k = 5 then (true, 1) else if k = 6 then (s.1, s.2 + 1) else if k = 7 then (s.1, s.2 - 1) else if k = 9 then (false, s.2) else s
def st1 (o : Int) (s : Bool × Int) (r : Rc) : Bool × Int := if r.o = o then stp s r.k else s
def stOf (rs : List Rc) (o : Int) : Bool × Int := rs.foldl (st1 o) (false, 0)
theorem stOf_take (rs : List Rc) (k : Nat) (h : k < rs.length) (o : Int) : stOf (rs.take (k + 1)) o = st1 o (stOf (rs.take k) o) (rs.getD k .zero) := by
  unfold stOf
  rw [List.take_succ_eq_append_getElem h, List.foldl_append]
  simp [List.getD, List.getElem?_eq_getElem h]
theorem stOf_bound (rs : List Rc) (o : Int) (k : Nat) (h : k ≤ rs.length) : -(k : Int) ≤ (stOf (rs.take k) o).2 ∧ (stOf (rs.take k) o).2 ≤ k := by
  induction k with
  | zero => simp [stOf]
  | succ k ih =>
    have := ih (by omega)
    rw [stOf_take rs k (by omega)]
    unfold st1 stp
    (repeat' split) <;> simp <;> omega
/-- The counts of the things below k. -/
def cnt (rs : List Rc) (k : Nat) : List (Int × Int) := (List.range k).flatMap fun (o : Nat) => if (stOf rs (o : Int)).1 then [((o : Int), (stOf rs (o : Int)).2)] else []
def cntCells (l : List (Int × Int)) : List Value := l.flatMap fun p => [.int .i64 p.1, .int .i64 p.2]
theorem cnt_succ (rs : List Rc) (k : Nat) : cnt rs (k + 1) = cnt rs k ++ (if (stOf rs k).1 then [((k : Int), (stOf rs k).2)] else []) := by
  unfold cnt; rw [List.range_succ, List.flatMap_append]; simp
theorem cnt_len (rs : List Rc) (k : Nat) : (cnt rs k).length ≤ k := by
  induction k with
  | zero => simp [cnt]
  | succ k ih =>
    rw [cnt_succ, List.length_append]
    split <;> simp <;> omega
theorem cntCells_len (l : List (Int × Int)) : (cntCells l).length = l.length * 2 := by
  unfold cntCells
  induction l with
  | nil => rfl
  | cons a l ih => rw [List.flatMap_cons, List.length_append, ih]; simp; omega
theorem cntCells_append (l m : List (Int × Int)) : cntCells (l ++ m) = cntCells l ++ cntCells m := by unfold cntCells; rw [List.flatMap_append]
def CntPost (w : World) (rs : List Rc) (e : Ending) (w' : World) : Prop :=
  ∃ A m c, e = .returned (.tuple #[.slice A m c, .int .i64 (traceErr rs)]) ∧ (Reads w' w'.heap.size 2 A m (cntCells (if traceErr rs = 0 then cnt rs 64 else []))) ∧ Below w.heap.size w w'
theorem CntPost.bad {w w' : World} {rs : List Rc} (h0 : traceErr rs ≠ 0) (hb : Below w.heap.size w w') : CntPost w rs (.returned (.tuple #[.slice none 0 0, .int .i64 (traceErr rs)])) w' := by
  refine ⟨none, 0, 0, rfl, ?_, hb⟩
  rw [if_neg h0]
  exact Reads.none_
theorem CntPost.good {w w' : World} {rs : List Rc} {A : Option Addr} {m c : Nat} (hx : traceErr rs = 0) (hr : Reads w' w'.heap.size 2 A m (cntCells (cnt rs 64))) (hb : Below w.heap.size w w') : CntPost w rs (.returned (.tuple #[.slice A m c, .int .i64 0])) w' := by
  refine ⟨A, m, c, by rw [hx], ?_, hb⟩
  rw [if_pos hx]
  exact hr
theorem cntinfo : (Try.prog.info? 40).map (fun i => (i.zero, i.size, i.bytes)) = some (some (.agg #[.int .i64 0, .int .i64 0]), 2, 16) := by kernel_rfl
theorem reads_new2 (w : World) (a b : Int) (t : TypeId) : Reads (w.alloc (.cells #[.int .i64 a, .int .i64 b] t)) (w.heap.size + 1) 2 (some ⟨w.heap.size, 0, none⟩) 1 (cntCells [(a, b)]) := by
  refine ⟨rfl, fun _ => ⟨w.heap.size, 0, rfl, by omega, fun j u hu => ?_⟩⟩
  rw [Nat.zero_add, cell_of_row _ w.heap.size j _ t (0, 0) (heap_alloc_new w _)]
  simpa [cntCells] using hu
theorem cnt_oneCell (l : List (Int × Int)) : ∀ u ∈ cntCells l, u.oneCell' = true := by
  intro u hu
  obtain ⟨p, _, hu⟩ := List.mem_flatMap.1 hu
  simp only [List.mem_cons, List.not_mem_nil, or_false] at hu
  rcases hu with rfl | rfl <;> rfl
def CntRel (w : World) (rs : List Rc) (k : Nat) (v : Value) (wr : World) : Prop :=
  wr.ownsRow w.heap.size 40 2 v (cnt rs k).length (cntCells (cnt rs k)) ∧ Below w.heap.size w wr
set_option maxHeartbeats 4000000 in
set_option maxRecDepth 100000 in
theorem refCounts_any (A : Option Addr) (n c : Nat) (rs : List Rc) (w : World) (B : Nat) (h : RR w B A n rs) (hB : B ≤ w.heap.size) (hn : n ≤ 9223372036854775807) :
    Calls Try.prog 21 #[.slice A n c] w (CntPost w rs) := by
  have HL := Lib.hid h.2
  by_cases ht : traceErr rs = 0
  · obtain ⟨hsm, hgd⟩ := traceErr_good ht
    have hsm' : n ≤ 400 := by rw [HL.out] at hsm; exact hsm
    have HT := Lib.hid ht
    clear hsm hgd
    obtain ⟨i0, hi0, hz0, hz1, hz2⟩ := info_parts cntinfo
    go_enter Try.func21, Try.ntmps21
    go_wp2_with (go_at_call 37; refine (fault_any A n c rs _ B h hB hn).mono ?_; rintro e w1 ⟨rfl, hb1⟩; rw [ht])
    clear ht
    have hrel0 : CntRel w rs 0 (.slice none 0 0) w1 := ⟨World.ownsRow_nil _ _ _ _, hb1⟩
    go_loopw [5, 6] (fun v i wr => ∃ k : Nat, k ≤ 64 ∧ i = .int .i64 k ∧ CntRel w rs k v wr) (fun _ i _ => 64 - (intOf i).toNat)
    case atStart => exact ⟨0, by omega, rfl, hrel0⟩
    case round =>
      obtain ⟨k, hk, rfl, hown, hbw⟩ := hrel
      clear hrel0
      by_cases hlt : k < 64
      · go_wp2
        rename World => w0
        clear hb1
        go_loopw [7, 8, 22] (fun b s i wr => ∃ j : Nat, j ≤ n ∧ i = .int .i64 j ∧ b = .bool (stOf (rs.take j) k).1 ∧ s = .int .i64 (stOf (rs.take j) k).2 ∧ Below w0.heap.size w0 wr) (fun _ _ i _ => n - (intOf i).toNat)
        case atStart => exact ⟨0, by omega, rfl, rfl, rfl, Below.refl _ _⟩
        case round =>
          obtain ⟨j, hj, rfl, rfl, rfl, hb0⟩ := hrel
          by_cases hjn : j < n
          · have hbww := hbw.trans (hb0.mono hbw.size)
            obtain ⟨b, o, rfl, hb, c0, c1, c2, c3⟩ := (h.below' hbww hB).at_ hjn
            have hT := Lib.hid (stOf_take rs j (by rw [HL.out]; exact hjn) k)
            have hbd := stOf_bound rs k j (by rw [HL.out]; exact hj)
            generalize rs.getD j .zero = r at *
            generalize stOf (rs.take j) k = s at *
            obtain ⟨sb, sn⟩ := s
            dsimp only at hbd
            by_cases ho : r.o = k
            · by_cases h5 : r.k = 5
              · go_wp2
                go_roundw
                case rel => exact ⟨j + 1, by omega, by go_num, by rw [hT.out]; simp [st1, stp, ho, h5], by rw [hT.out]; simp [st1, stp, ho, h5], hb0.alloc hb0.size _⟩
                case measure => simp [intOf]; omega
              by_cases h6 : r.k = 6
              · go_wp2
                go_roundw
                case rel => exact ⟨j + 1, by omega, by go_num, by rw [hT.out]; simp [st1, stp, ho, h6], by rw [hT.out]; simp [st1, stp, ho, h6], hb0.alloc hb0.size _⟩
                case measure => simp [intOf]; omega
              by_cases h7 : r.k = 7
              · go_wp2
                go_roundw
                case rel => exact ⟨j + 1, by omega, by go_num, by rw [hT.out]; simp [st1, stp, ho, h7], by rw [hT.out]; simp [st1, stp, ho, h7], hb0.alloc hb0.size _⟩
                case measure => simp [intOf]; omega
              by_cases h9 : r.k = 9
              · go_wp2
                go_roundw
                case rel => exact ⟨j + 1, by omega, by go_num, by rw [hT.out]; simp [st1, stp, ho, h9], by rw [hT.out]; simp [st1, stp, ho, h9], hb0.alloc hb0.size _⟩
                case measure => simp [intOf]; omega
              go_wp2
              go_roundw
              case rel => exact ⟨j + 1, by omega, by go_num, by rw [hT.out]; simp [st1, stp, ho, h5, h6, h7, h9], by rw [hT.out]; simp [st1, stp, ho, h5, h6, h7, h9], hb0.alloc hb0.size _⟩
              case measure => simp [intOf]; omega
            · have ho' : (r.o != (k : Int)) = true := by simpa using ho
              go_wp2
              go_roundw
              case rel => exact ⟨j + 1, by omega, by go_num, by rw [hT.out]; simp [st1, stp, ho], by rw [hT.out]; simp [st1, stp, ho], hb0.alloc hb0.size _⟩
              case measure => simp [intOf]; omega
          · rw [List.take_of_length_le (by rw [HL.out]; omega)]
            have hS := Lib.hid (cnt_succ rs k)
            have hcl := cnt_len rs k
            have hown1 := own_keep hown hb0
            have hbww := hbw.trans (hb0.mono hbw.size)
            generalize stOf rs k = s at *
            obtain ⟨sb, sn⟩ := s
            cases sb
            · go_wp2
              go_roundw
              case rel => exact ⟨k + 1, by omega, by go_num, ⟨by rw [hS.out]; simpa using hown1, hbww⟩⟩
              case measure => simp [intOf]; omega
            · go_wp2_with (at_builtin; refine wpList_append_reads _ rfl (.tmp 46) (.tmp 50) _ rfl w.heap.size 40 i0 _ 2 16 Try.underlying36 hi0 hz0 hz1 hz2 rfl (by omega) _ (cnt rs k).length _ rfl (hown1.alloc _) _ (some ⟨wr.heap.size, 0, none⟩) 1 1 (cntCells [((k : Int), sn)]) rfl (reads_new2 wr k sn 40) (cnt_oneCell _) (by simp only [maxLen]; omega) (by omega) (by simp; exact Nat.le_succ_of_le hbww.size) ?_; intro v4 w6 hown6 hgr6 hob6)
              go_roundw
              case rel => exact ⟨k + 1, by omega, by go_num, ⟨by rw [hS.out]; simpa [cntCells_append] using hown6, (hbww.alloc hbww.size _).grown hgr6 (by simp; exact Nat.le_succ_of_le hbww.size) fun g hgg => (hown1.lt g hgg).1⟩⟩
              case measure => simp [intOf]; omega
      · obtain rfl : k = 64 := by omega
        obtain ⟨A', c', rfl, -⟩ := own_shape hown
        go_wp2
        go_ret2
        exact .good HT.out (Reads.of_own hown) hbw
  · have ht' : (traceErr rs != 0) = true := by simpa using ht
    go_enter Try.func21, Try.ntmps21
    go_wp2_with (go_at_call 37; refine (fault_any A n c rs _ B h hB hn).mono ?_; rintro e w1 ⟨rfl, hb1⟩)
    go_ret2
    exact .bad ht hb1
end Go.Proofs.Ytjdbclcafjlohaa
