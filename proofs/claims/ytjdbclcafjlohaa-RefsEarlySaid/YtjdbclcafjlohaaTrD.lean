/- A slice of records and a record as arguments; the law ringlaw4.TraceWritten. -/
import Derived.Test.YtjdbclcafjlohaaTrC
import Derived.Test.YtjdbclcafjlohaaOpen
import Derived.Deep.Slices
import Derived.Deep.Fields
namespace Go.Proofs.Ytjdbclcafjlohaa
open Go.ChangeShapes Go.WideShapes Go.ChangeAt Go.RowKit Go.Joins Go.Deep
set_option maxHeartbeats 400000
set_option linter.unusedVariables false
set_option linter.unusedSimpArgs false
def Rc.ok (r : Rc) : Prop := I64 r.k ∧ I64 r.c ∧ I64 r.t ∧ I64 r.o
section
variable {H : Type} {enc : TypeId × Value → H} {P : Program} {w : World} {base : Nat} {held : Bool}
theorem one_int {n : Nat} {t : TypeId} {v : Value} {y : DataW H × List MemPlace} (ht : P.underlying t = some (.int .i64)) (h : DataW.trod enc P w base (fun _ => true) held n t [v] = some y) : ∃ x, v = .int .i64 x ∧ I64 x := by
  obtain ⟨x, e, _, hw⟩ := DataW.trod_int ht h
  simp at e
  exact ⟨x, e, i64_range hw⟩
theorem rec_cells {e : TypeId} {f0 f1 f2 f3 : Field} {fuel : Nat} {cs : List Value} {x : DataW H × List MemPlace} (he : P.underlying e = some (.struct #[f0, f1, f2, f3]))
    (hone : oneCellFields P #[f0, f1, f2, f3] = true) (hC : P.cellsOf e = 4) (h0 : P.underlying f0.type = some (.int .i64)) (h1 : P.underlying f1.type = some (.int .i64)) (h2 : P.underlying f2.type = some (.int .i64)) (h3 : P.underlying f3.type = some (.int .i64))
    (h : DataW.trod enc P w base (fun _ => true) held fuel e cs = some x) : ∃ r : Rc, cs = r.cells ∧ r.ok := by
  obtain ⟨ys, n, _, _, hl, hyl, hf⟩ := DataW.trod_struct he h
  rw [hC] at hl
  match cs, hl, ys, hyl with
  | [v0, v1, v2, v3], _, [y0, y1, y2, y3], _ =>
    obtain ⟨o0, k0⟩ := hone_of hone 0 f0 rfl
    obtain ⟨o1, k1⟩ := hone_of hone 1 f1 rfl
    obtain ⟨o2, k2⟩ := hone_of hone 2 f2 rfl
    obtain ⟨o3, k3⟩ := hone_of hone 3 f3 rfl
    obtain ⟨x0, rfl, r0⟩ := one_int h0 (by simpa [o0, k0] using hf 0 f0 rfl)
    obtain ⟨x1, rfl, r1⟩ := one_int h1 (by simpa [o1, k1] using hf 1 f1 rfl)
    obtain ⟨x2, rfl, r2⟩ := one_int h2 (by simpa [o2, k2] using hf 2 f2 rfl)
    obtain ⟨x3, rfl, r3⟩ := one_int h3 (by simpa [o3, k3] using hf 3 f3 rfl)
    exact ⟨⟨x0, x1, x2, x3⟩, rfl, r0, r1, r2, r3⟩
theorem flat_cells (f : Nat → Rc) (n j : Nat) (u : Value) (h : (((List.range n).map f).flatMap Rc.cells)[j]? = some u) : j / 4 < n ∧ (f (j / 4)).cells[j % 4]? = some u := by
  have hl : ∀ rs : List Rc, (rs.flatMap Rc.cells).length = rs.length * 4 := by
    intro rs
    induction rs with
    | nil => rfl
    | cons a rs ih => rw [List.flatMap_cons, List.length_append, ih]; simp [Rc.cells]; omega
  have hj : j < n * 4 := by
    rcases Nat.lt_or_ge j (n * 4) with h' | h'
    · exact h'
    · rw [List.getElem?_eq_none (by rw [hl]; simpa using h')] at h; cases h
  have hq : j / 4 < n := by omega
  refine ⟨hq, ?_⟩
  have := flat_at ((List.range n).map f) (j / 4) (j % 4) (f (j / 4)) (by simp [hq]) (by omega)
  rw [← this, ← h]
  congr 1
  omega
/-- A slice of records, opened. -/
theorem open_rr {t e : TypeId} {f0 f1 f2 f3 : Field} {fuel : Nat} {v : Value} {x : DataW H × List MemPlace} (ht : P.underlying t = some (.slice e)) (he : P.underlying e = some (.struct #[f0, f1, f2, f3]))
    (hone : oneCellFields P #[f0, f1, f2, f3] = true) (hC : P.cellsOf e = 4) (h0 : P.underlying f0.type = some (.int .i64)) (h1 : P.underlying f1.type = some (.int .i64)) (h2 : P.underlying f2.type = some (.int .i64)) (h3 : P.underlying f3.type = some (.int .i64))
    (h : DataW.trod enc P w base (fun _ => true) held fuel t [v] = some x) :
    ∃ A n c rs, v = .slice A n c ∧ RR w w.heap.size A n rs ∧ (∀ r ∈ rs, r.ok) ∧ n ≤ c ∧ c ≤ maxLen ∧ (∀ R, (∀ m ∈ x.1.weights P t, m ≤ R) → n * P.bytesOf e ≤ R) := by
  rcases open_slice ht h with ⟨hcs, rfl⟩ | ⟨a, len, cap, m, n, D, Pl, hcs, _, hl, hm, hmm, rfl, hi⟩
  · simp at hcs
    exact ⟨none, 0, 0, [], hcs, ⟨Reads.none_, rfl⟩, fun r hr => by simp at hr, Nat.le_refl _, by simp, fun R _ => by simp⟩
  · simp at hcs
    simp only [if_true] at hmm
    subst hmm
    rw [hC] at hi
    have hch : ∀ i, ∃ r : Rc, i < len → r.ok ∧ ∀ j, j < 4 → w.cell? ((a.add (i * 4)).add j) = r.cells[j]? := by
      intro i
      by_cases hil : i < len
      · obtain ⟨cs', hc, ht'⟩ := hi i (by omega)
        obtain ⟨r, rfl, hr⟩ := rec_cells he hone hC h0 h1 h2 h3 ht'
        exact ⟨r, fun _ => ⟨hr, (World.cells?_some hc).2.2⟩⟩
      · exact ⟨.zero, fun h => absurd h hil⟩
    obtain ⟨f, hf⟩ := Classical.axiomOfChoice hch
    refine ⟨some a, len, m, (List.range len).map f, hcs, ⟨⟨?_, fun hn => ?_⟩, by simp⟩, fun r hr => ?_, hl, hm, fun R hR => ?_⟩
    · generalize len = l
      induction l with
      | zero => rfl
      | succ l ih => rw [List.range_succ, List.map_append, List.flatMap_append, List.length_append, ih]; simp [Rc.cells]; omega
    · have hc0 := (hf 0 hn).2 0 (by omega)
      obtain ⟨b, o, sp⟩ := a
      have hsp : sp = none := by simpa [Addr.add] using World.cell?_spot (hc0.trans rfl)
      subst hsp
      have hlt : b < w.heap.size := World.block_lt_of_cell? w _ (by rw [add_plain, add_plain] at hc0; exact hc0)
      refine ⟨b, o, rfl, hlt, fun j u hu => ?_⟩
      obtain ⟨hq, hu'⟩ := flat_cells f len j u hu
      have := (hf (j / 4) hq).2 (j % 4) (by omega)
      rw [add_plain, add_plain] at this
      rw [← hu', ← this]
      congr 2
      omega
    · obtain ⟨i, hi', rfl⟩ := List.mem_map.1 hr
      exact (hf i (by simpa using hi')).1
    · have := hR _ (by simp only [DataW.weights, ht]; exact List.mem_cons_self)
      refine Nat.le_trans (Nat.mul_le_mul_right _ ?_) this
      simp
      try omega
end
theorem sameBytes_same (A A' : Option Addr) (n c n' c' : Nat) (xs : List Int) (w : World) (B B' : Nat) (h : RB w B A n xs) (h' : RB w B' A' n' xs) :
    Calls Try.prog 14 #[.slice A n c, .slice A' n' c'] w fun e w' => e = .returned (.bool true) ∧ w = w' :=
  (sameBytes_any A A' n c n' c' xs xs w B B' h h').mono fun e w' ⟨h1, h2⟩ => ⟨by simpa using h1, h2⟩
set_option maxRecDepth 100000 in
theorem law_traceWritten (A : Option Addr) (n c : Nat) (rs : List Rc) (r : Rc) (w : World) (h : RR w w.heap.size A n rs) (hn : n ≤ 9223372036854775807) :
    Calls Try.prog 3 #[.slice A n c, .agg #[.int .i64 r.k, .int .i64 r.c, .int .i64 r.t, .int .i64 r.o]] w fun e w' => e = .returned (.bool true) ∧ Below w.heap.size w w' := by
  have hB0 : Below w.heap.size w (w.alloc (.cells #[.int .i64 r.k, .int .i64 r.c, .int .i64 r.t, .int .i64 r.o] 24)) := (Below.refl _ _).alloc (Nat.le_refl _) _
  go_enter Try.func3, Try.ntmps3
  go_wp2_with fail
  refine (encode_any A n c rs _ w.heap.size (h.below' hB0 (Nat.le_refl _)) (by simp) hn).mono ?_
  rintro e w1 ⟨A1, m1, c1, rfl, hr1, hb1⟩
  have hs1 : w.heap.size + 1 ≤ w1.heap.size := by have := hb1.size; simpa using this
  have hbw1 : Below w.heap.size w w1 := hB0.trans (hb1.mono (by simp))
  go_wp2_with fail
  refine (traceBytes_any A n c rs _ w.heap.size (h.below' hbw1 (Nat.le_refl _)) (by omega) hn).mono ?_
  rintro e w2 ⟨A2, m2, c2, rfl, hr2, hb2⟩
  generalize traceErr rs = E at *
  generalize (if E = 0 then encB rs else []) = ys at *
  have hr1' := hr1.below' hb2 (Nat.le_refl _)
  have hs2 : w.heap.size + 1 ≤ w2.heap.size := Nat.le_trans hs1 hb2.size
  have hb12 : Below (w.alloc (.cells #[.int .i64 r.k, .int .i64 r.c, .int .i64 r.t, .int .i64 r.o] 24)).heap.size (w.alloc (.cells #[.int .i64 r.k, .int .i64 r.c, .int .i64 r.t, .int .i64 r.o] 24)) w2 := hb1.trans (hb2.mono (by simpa using hs1))
  have hbw2 : Below w.heap.size w w2 := hbw1.trans (hb2.mono (by omega))
  obtain ⟨k0, k1, k2, k3⟩ := box4 hb12
  clear hb1 hb12 hr1
  go_wp2_with fail
  refine wp_region_near w2.heap.size (by kernel_rfl) (by kernel_rfl) ?_
  have k0n : w.heap.size < w2.heap.size := by omega
  repeat (go_big_quiet_step (first
    | (go_at_call 14; exact Calls.near_same (sameBytes_same _ _ _ _ _ _ ys _ _ _ (hr1'.below' (Near.prop _) hb2.size) (hr2.below' (Near.prop _) (Nat.le_refl _))))
    | (go_at_call 15; exact Calls.near (Near.size _) (check_any r _))
    | (go_at_call 16; exact Calls.near (Near.size _) (recFault_any r _))))
  refine wpQuiet_nil ?_
  intro w3 hb3
  go_wp2
  go_ret
  exact ⟨rfl, hbw2.trans (hb3.mono (by omega))⟩
end Go.Proofs.Ytjdbclcafjlohaa
