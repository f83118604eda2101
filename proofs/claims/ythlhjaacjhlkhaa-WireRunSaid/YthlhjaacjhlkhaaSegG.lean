/- Contracts of ringref4.SegOf. -/
import Derived.Test.YthlhjaacjhlkhaaSegF
import Derived.LoopTactic
namespace Go.Proofs.Ythlhjaacjhlkhaa
open Go.RowKit
set_option maxHeartbeats 400000
set_option linter.unusedVariables false
set_option linter.unusedSimpArgs false
def pw : Nat → List Int → Int
  | 0, _ => 0
  | k + 1, xs => pw k xs * 256 + xs.getD k 0
theorem pw_four (xs : List Int) : pw 4 xs = wordI xs := by simp only [pw, wordI]; omega
theorem pw_range (xs : List Int) (h : ∀ k, 0 ≤ xs.getD k 0 ∧ xs.getD k 0 < 256) (k : Nat) (hk : k ≤ 3) : 0 ≤ pw k xs ∧ pw k xs < 16777216 := by
  have h0 := h 0
  have h1 := h 1
  have h2 := h 2
  match k, hk with
  | 0, _ => simp only [pw]; omega
  | 1, _ => simp only [pw]; omega
  | 2, _ => simp only [pw]; omega
  | 3, _ => simp only [pw]; omega
theorem segOf_1 (A : Option Addr) (n c : Nat) (xs : List Int) (w : World) (h : RB w w.heap.size A n xs) (hn : n < 14) : Calls Try.prog 22 #[.slice A n c] w (DecPost w (.bad 21)) := by
  go_enter Try.func22, Try.ntmps22
  go_wp2
  exact bodyPost_ret (v := .tuple #[.agg #[.int .u32 0, .int .u32 0, .int .i64 0, .int .i64 0, .slice none 0 0], .int .i64 21]) (by simp [results, Try.results22, go_sem]) rfl (.of_bad ((Below.refl _ _).alloc (Nat.le_refl _) _))
theorem segOf_2 (n c : Nat) (xs : List Int) (w : World) (b o : Nat) (h : RB w w.heap.size (some ⟨b, o, none⟩) n xs) (hn : 14 ≤ n) (hc : n ≤ c) (hcm : c ≤ 9223372036854775807) (hb : b < w.heap.size) (h2 : (n : Int) < 14 + xs.getD 10 0) : Calls Try.prog 22 #[.slice (some ⟨b, o, none⟩) n c] w (DecPost w (.bad 21)) := by
  have g10 := h.cells 10 (by omega)
  have r10 := h.rng 10
  have hn10 : (10 : Int) < n := by omega
  generalize xs.getD 10 0 = y10 at *
  go_enter Try.func22, Try.ntmps22
  go_wp2
  exact bodyPost_ret (v := .tuple #[.agg #[.int .u32 0, .int .u32 0, .int .i64 0, .int .i64 0, .slice none 0 0], .int .i64 21]) (by simp [results, Try.results22, go_sem]) rfl (.of_bad ((Below.refl _ _).alloc (Nat.le_refl _) _))
theorem segOf_3 (n c : Nat) (xs : List Int) (w : World) (b o : Nat) (h : RB w w.heap.size (some ⟨b, o, none⟩) n xs) (hn : 14 ≤ n) (hc : n ≤ c) (hcm : c ≤ 9223372036854775807) (hb : b < w.heap.size) (h2 : ¬ (n : Int) < 14 + xs.getD 10 0)
    (h3 : 14 + xs.getD 10 0 < (n : Int) ∨ xs.getD 11 0 ≠ 0) : Calls Try.prog 22 #[.slice (some ⟨b, o, none⟩) n c] w (DecPost w (.bad 3)) := by
  have g10 := h.cells 10 (by omega)
  have r10 := h.rng 10
  have g11 := h.cells 11 (by omega)
  have hn10 : (10 : Int) < n := by omega
  have hn11 : (11 : Int) < n := by omega
  generalize xs.getD 10 0 = y10 at *
  generalize xs.getD 11 0 = y11 at *
  by_cases h4 : 14 + y10 < (n : Int)
  · go_enter Try.func22, Try.ntmps22
    go_wp2
    exact bodyPost_ret (v := .tuple #[.agg #[.int .u32 0, .int .u32 0, .int .i64 0, .int .i64 0, .slice none 0 0], .int .i64 3]) (by simp [results, Try.results22, go_sem]) rfl (.of_bad ((Below.refl _ _).alloc (Nat.le_refl _) _))
  · have h5 : (y11 != 0) = true := by simp; omega
    clear h3
    go_enter Try.func22, Try.ntmps22
    go_wp2
    exact bodyPost_ret (v := .tuple #[.agg #[.int .u32 0, .int .u32 0, .int .i64 0, .int .i64 0, .slice none 0 0], .int .i64 3]) (by simp [results, Try.results22, go_sem]) rfl (.of_bad ((Below.refl _ _).alloc (Nat.le_refl _) _))
theorem cut_run (P : Program) {t e : TypeId} (ht : P.underlying t = some (.slice e)) (hel : P.elem t = e) (hs : ∀ W, (sizeOf e).run P W = .ok 1 W) {w : World} {B n b o : Nat} {xs : List Int} (h : RB w B (some ⟨b, o, none⟩) n xs) (k c : Nat) (hk : k ≤ n) (hc : n ≤ c) :
    ∃ A, (∀ W, (Instr.slice t (.slice (some ⟨b, o, none⟩) n c) (some (.int .i64 (k : Int))) none none).run P W = .ok (.slice A (n - k) (c - k)) W) ∧ RB w B A (n - k) (xs.drop k) := by
  refine ⟨if c = k then some ⟨b, o, none⟩ else some ⟨b, o + k, none⟩, fun W => ?_, ?_⟩
  · rw [run_slice_l (P := P) W t (some ⟨b, o, none⟩) n c (by rw [hel]; exact ht) .i64 k (by omega) (by omega), hel, hs]
    simp [sliced, Result.andThen, add_plain]
  · by_cases hck : c = k
    · obtain rfl : n = k := by omega
      rw [if_pos hck, List.drop_eq_nil_of_le (by rw [h.len]; exact Nat.le_refl _), Nat.sub_self]
      exact ⟨Reads.none_, fun x hx => by simp at hx⟩
    · rw [if_neg hck]
      exact h.cut_some hk
theorem wpList_slice_l {P : Program} {ops : Array Oper} {rest : List Oper} {o : Oper} {a : Act} {Q : Exit → Act → World → Prop} {w : World} (hg : o.guard = none) (t e : TypeId) (x l : Operand) (ho : o.op = .slice t x (some l) none none) (ht : P.underlying t = some (.slice e)) (vx vl : Value) (hx : a.eval x = vx) (hl : a.eval l = vl) (v : Value)
    (hrun : (Instr.slice t vx (some vl) none none).run P w = .ok v w) (h : wpList P ops Q rest (a.put o.dst v) w) : wpList P ops Q (o :: rest) a w :=
  wpList_plain hg fun K hK => by
    unfold Oper.wp execOp
    simp only [ho, hx, hl, Option.map_some, Option.map_none, Instr.sliceAt, Sem.run_bind, run_underlying ht, Result.andThen, hrun]
    exact hK _ _ h
theorem _root_.Go.RB.take_some {w : World} {B n k : Nat} {A : Option Addr} {xs : List Int} (h : RB w B A n xs) (hk : k ≤ n) : RB w B A k (xs.take k) := by
  have := h.1.take hk
  rw [Nat.mul_one, ← List.map_take] at this
  exact ⟨this, fun x hx => h.2 x (List.mem_of_mem_take hx)⟩
/-- The loop of SegOf, k rounds done. -/
def OfRel (w : World) (xs : List Int) (g6 : Nat) (y8 y9 : Int) (k : Nat) (W : World) : Prop :=
  Below (w.heap.size + 1) (w.alloc (.cells #[.int .u32 0, .int .u32 0, .int .i64 0, .int .i64 0, .slice none 0 0] 25)) W ∧ w.heap.size + 1 ≤ g6 ∧ g6 < W.heap.size ∧
  W.heap[g6]? = some (.cells #[.int .u32 (pw k xs), .int .u32 (pw k (xs.drop 4)), .int .i64 y8, .int .i64 y9, .slice none 0 0] 25 (0, 0))
set_option maxHeartbeats 4000000 in
set_option maxRecDepth 100000 in
theorem segOf_4 (n c : Nat) (xs : List Int) (w : World) (b o : Nat) (h : RB w w.heap.size (some ⟨b, o, none⟩) n xs) (hn : 14 ≤ n) (hnb : n ≤ 1000) (hc : n ≤ c) (hcm : c ≤ 9223372036854775807) (hb : b < w.heap.size) (h2 : (n : Int) = 14 + xs.getD 10 0)
    (h3 : xs.getD 11 0 = 0) (r : Dec) (hr : r = if xs.getD 12 0 * 256 + xs.getD 13 0 ≠ sumI (plainI xs) then .bad 20 else
  if checkI (xs.getD 8 0) (xs.getD 9 0) (xs.length - 14) ≠ 0 then .bad (checkI (xs.getD 8 0) (xs.getD 9 0) (xs.length - 14)) else
  ⟨wordI xs, wordI (xs.drop 4), xs.getD 8 0, xs.getD 9 0, xs.drop 14, 0⟩) : Calls Try.prog 22 #[.slice (some ⟨b, o, none⟩) n c] w (DecPost w r) := by
  have g10 := h.cells 10 (by omega)
  have r10 := h.rng 10
  have g11 := h.cells 11 (by omega)
  rw [h3] at g11
  have h2' : ¬ (n : Int) < 14 + xs.getD 10 0 := by omega
  have h2'' : ¬ 14 + xs.getD 10 0 < (n : Int) := by omega
  have hn10 : (10 : Int) < n := by omega
  have hn11 : (11 : Int) < n := by omega
  have HR := Lib.hid hr
  have H2 := Lib.hid h2
  have H3 := Lib.hid h3
  clear hr h2 h3
  have hl := Lib.hid h.len
  have g8 := h.cells 8 (by omega)
  have g9 := h.cells 9 (by omega)
  have r8 := h.rng 8
  have r9 := h.rng 9
  have hn8 : (8 : Int) < n := by omega
  have hn9 : (9 : Int) < n := by omega
  generalize xs.getD 10 0 = y10 at *
  generalize xs.getD 8 0 = y8 at *
  generalize xs.getD 9 0 = y9 at *
  go_enter Try.func22, Try.ntmps22
  go_wp2
  refine wp_region_walk (fun w' => Below (w.heap.size + 1) (w.alloc (.cells #[.int .u32 0, .int .u32 0, .int .i64 0, .int .i64 0, .slice none 0 0] 25)) w' ∧ w.heap.size + 1 ≤ w'.heap.size) [[], [(35, 0)], [(36, 1)], [(37, 2)], [], [(39, 4)], [(40, 5)], [(41, 6)], [(38, 3), (42, 7)], []]
    [(35, 0), (36, 1), (37, 2), (38, 3), (39, 4), (40, 5), (41, 6), (42, 7), (43, 8), (5, 9)] (by kernel_rfl) (by kernel_rfl) (by kernel_rfl) ⟨((Below.refl _ _)).drew, by simp⟩ ?_
  apply Flow.det_step
  · go_light
    intro w1 hC1
    simp only [Flow.fill, Flow.after, Flow.at_, List.nil_append, List.cons_append, List.getD_cons_zero, List.getD_cons_succ, det, forall_eq, List.setIfInBounds_toArray, List.set_cons_zero, List.set_cons_succ, List.drop, List.length]
    obtain ⟨hb1, hsz1⟩ := hC1
    have hbw1 : Below w.heap.size w w1 := ((Below.refl _ _).alloc (Nat.le_refl _) _).trans (hb1.mono (by omega)); have k8 := (hbw1.cell (p := ⟨b, o + 8, none⟩) hb).trans g8; have k9 := (hbw1.cell (p := ⟨b, o + 9, none⟩) hb).trans g9
    go_wp2
    exact Flow.post_det ⟨hb1, hsz1⟩ (Grow.refl _) rfl rfl
  apply Flow.det_step
  · go_light
    intro w1 hC1
    simp only [Flow.fill, Flow.after, Flow.at_, List.nil_append, List.cons_append, List.getD_cons_zero, List.getD_cons_succ, det, forall_eq, List.setIfInBounds_toArray, List.set_cons_zero, List.set_cons_succ, List.drop, List.length]
    obtain ⟨hb1, hsz1⟩ := hC1
    have hbw1 : Below w.heap.size w w1 := ((Below.refl _ _).alloc (Nat.le_refl _) _).trans (hb1.mono (by omega)); have k8 := (hbw1.cell (p := ⟨b, o + 8, none⟩) hb).trans g8; have k9 := (hbw1.cell (p := ⟨b, o + 9, none⟩) hb).trans g9
    go_wp2
    exact Flow.post_det ⟨hb1, hsz1⟩ (Grow.refl _) rfl rfl
  apply Flow.det_step
  · go_light
    intro w1 hC1
    simp only [Flow.fill, Flow.after, Flow.at_, List.nil_append, List.cons_append, List.getD_cons_zero, List.getD_cons_succ, det, forall_eq, List.setIfInBounds_toArray, List.set_cons_zero, List.set_cons_succ, List.drop, List.length]
    obtain ⟨hb1, hsz1⟩ := hC1
    have hbw1 : Below w.heap.size w w1 := ((Below.refl _ _).alloc (Nat.le_refl _) _).trans (hb1.mono (by omega)); have k8 := (hbw1.cell (p := ⟨b, o + 8, none⟩) hb).trans g8; have k9 := (hbw1.cell (p := ⟨b, o + 9, none⟩) hb).trans g9
    go_wp2
    exact Flow.post_det ⟨hb1, hsz1⟩ (Grow.refl _) rfl rfl
  apply Flow.det_step
  · go_light
    intro w1 hC1
    simp only [Flow.fill, Flow.after, Flow.at_, List.nil_append, List.cons_append, List.getD_cons_zero, List.getD_cons_succ, det, forall_eq, List.setIfInBounds_toArray, List.set_cons_zero, List.set_cons_succ, List.drop, List.length]
    obtain ⟨hb1, hsz1⟩ := hC1
    have hbw1 : Below w.heap.size w w1 := ((Below.refl _ _).alloc (Nat.le_refl _) _).trans (hb1.mono (by omega)); have k8 := (hbw1.cell (p := ⟨b, o + 8, none⟩) hb).trans g8; have k9 := (hbw1.cell (p := ⟨b, o + 9, none⟩) hb).trans g9
    go_wp2
    exact Flow.post_det ⟨hb1, hsz1⟩ (Grow.refl _) rfl rfl
  apply Flow.det_step
  · go_light
    intro w1 hC1
    simp only [Flow.fill, Flow.after, Flow.at_, List.nil_append, List.cons_append, List.getD_cons_zero, List.getD_cons_succ, det, forall_eq, List.setIfInBounds_toArray, List.set_cons_zero, List.set_cons_succ, List.drop, List.length]
    obtain ⟨hb1, hsz1⟩ := hC1
    have hbw1 : Below w.heap.size w w1 := ((Below.refl _ _).alloc (Nat.le_refl _) _).trans (hb1.mono (by omega)); have k8 := (hbw1.cell (p := ⟨b, o + 8, none⟩) hb).trans g8; have k9 := (hbw1.cell (p := ⟨b, o + 9, none⟩) hb).trans g9
    go_wp2
    exact Flow.post_det ⟨hb1, hsz1⟩ (Grow.refl _) rfl rfl
  apply Flow.det_step
  · go_light
    intro w1 hC1
    simp only [Flow.fill, Flow.after, Flow.at_, List.nil_append, List.cons_append, List.getD_cons_zero, List.getD_cons_succ, det, forall_eq, List.setIfInBounds_toArray, List.set_cons_zero, List.set_cons_succ, List.drop, List.length]
    obtain ⟨hb1, hsz1⟩ := hC1
    have hbw1 : Below w.heap.size w w1 := ((Below.refl _ _).alloc (Nat.le_refl _) _).trans (hb1.mono (by omega)); have k8 := (hbw1.cell (p := ⟨b, o + 8, none⟩) hb).trans g8; have k9 := (hbw1.cell (p := ⟨b, o + 9, none⟩) hb).trans g9
    go_wp2
    exact Flow.post_det ⟨hb1, hsz1⟩ (Grow.refl _) rfl rfl
  apply Flow.det_step
  · go_light
    intro w1 hC1
    simp only [Flow.fill, Flow.after, Flow.at_, List.nil_append, List.cons_append, List.getD_cons_zero, List.getD_cons_succ, det, forall_eq, List.setIfInBounds_toArray, List.set_cons_zero, List.set_cons_succ, List.drop, List.length]
    obtain ⟨hb1, hsz1⟩ := hC1
    have hbw1 : Below w.heap.size w w1 := ((Below.refl _ _).alloc (Nat.le_refl _) _).trans (hb1.mono (by omega)); have k8 := (hbw1.cell (p := ⟨b, o + 8, none⟩) hb).trans g8; have k9 := (hbw1.cell (p := ⟨b, o + 9, none⟩) hb).trans g9
    go_wp2
    exact Flow.post_det ⟨hb1, hsz1⟩ (Grow.refl _) rfl rfl
  apply Flow.det_step
  · go_light
    intro w1 hC1
    simp only [Flow.fill, Flow.after, Flow.at_, List.nil_append, List.cons_append, List.getD_cons_zero, List.getD_cons_succ, det, forall_eq, List.setIfInBounds_toArray, List.set_cons_zero, List.set_cons_succ, List.drop, List.length]
    obtain ⟨hb1, hsz1⟩ := hC1
    have hbw1 : Below w.heap.size w w1 := ((Below.refl _ _).alloc (Nat.le_refl _) _).trans (hb1.mono (by omega)); have k8 := (hbw1.cell (p := ⟨b, o + 8, none⟩) hb).trans g8; have k9 := (hbw1.cell (p := ⟨b, o + 9, none⟩) hb).trans g9
    go_wp2
    exact Flow.post_det ⟨hb1, hsz1⟩ (Grow.refl _) rfl rfl
  apply Flow.det_step
  · go_light
    intro w1 hC1
    simp only [Flow.fill, Flow.after, Flow.at_, List.nil_append, List.cons_append, List.getD_cons_zero, List.getD_cons_succ, det, forall_eq, List.setIfInBounds_toArray, List.set_cons_zero, List.set_cons_succ, List.drop, List.length]
    obtain ⟨hb1, hsz1⟩ := hC1
    have hbw1 : Below w.heap.size w w1 := ((Below.refl _ _).alloc (Nat.le_refl _) _).trans (hb1.mono (by omega)); have k8 := (hbw1.cell (p := ⟨b, o + 8, none⟩) hb).trans g8; have k9 := (hbw1.cell (p := ⟨b, o + 9, none⟩) hb).trans g9
    go_wp2
    exact Flow.post_det ⟨hb1, hsz1⟩ (Grow.refl _) rfl rfl
  refine Flow.st_step (⟨fun v W => ∃ g6, v = .pointer (some ⟨g6, 0, none⟩) ∧ w.heap.size + 1 ≤ g6 ∧ g6 < W.heap.size ∧ W.heap[g6]? = some (.cells #[.int .u32 0, .int .u32 0, .int .i64 0, .int .i64 0, .slice none 0 0] 25 (0, 0)), fun v W W' hh hg => by obtain ⟨g6, h1, h2, h3, h4⟩ := hh; exact ⟨g6, h1, h2, Nat.lt_of_lt_of_le h3 hg.size, (hg.block g6 h3).trans h4⟩⟩) ?_ ?_
  · go_light
    intro w1 hC1
    simp only [Flow.fill, Flow.after, Flow.at_, List.nil_append, List.cons_append, List.getD_cons_zero, List.getD_cons_succ, det, forall_eq, List.setIfInBounds_toArray, List.set_cons_zero, List.set_cons_succ, List.drop, List.length]
    obtain ⟨hb1, hsz1⟩ := hC1
    have hbw1 : Below w.heap.size w w1 := ((Below.refl _ _).alloc (Nat.le_refl _) _).trans (hb1.mono (by omega)); have k8 := (hbw1.cell (p := ⟨b, o + 8, none⟩) hb).trans g8; have k9 := (hbw1.cell (p := ⟨b, o + 9, none⟩) hb).trans g9
    go_wp2
    exact Flow.post_st ⟨hb1.alloc hsz1 _, by simp; omega⟩ (Grow.alloc _ _) rfl rfl ⟨_, rfl, hsz1, by simp, heap_alloc_new _ _⟩
  intro w1 hC1
  simp only [Flow.fill, Flow.after, Flow.at_, List.nil_append, List.cons_append, List.getD_cons_zero, List.getD_cons_succ, det, forall_eq, List.setIfInBounds_toArray, List.set_cons_zero, List.set_cons_succ, List.drop, List.length]
  rintro _ ⟨g6, rfl, hg6, hg6l, hcs6⟩
  obtain ⟨hb1, hsz1⟩ := hC1
  have hbw1 : Below w.heap.size w w1 := ((Below.refl _ _).alloc (Nat.le_refl _) _).trans (hb1.mono (by omega)); have k8 := (hbw1.cell (p := ⟨b, o + 8, none⟩) hb).trans g8; have k9 := (hbw1.cell (p := ⟨b, o + 9, none⟩) hb).trans g9
  obtain ⟨m0, m1, m2, m3, m4⟩ := row5 hcs6
  obtain ⟨f0, f1, f2, f3, f4⟩ := row5f hcs6
  have hrow := set5 (a := .int .u32 0) (b := .int .u32 0) (c := .int .i64 y8) (d := .int .i64 y9) (e := .slice none 0 0) hcs6
  have hb4 := below5 hb1 (k := g6) (by omega) (.int .u32 0) (.int .u32 0) (.int .i64 y8) (.int .i64 y9) (.slice none 0 0)
  have hrel0 : OfRel w xs g6 y8 y9 0 _ := ⟨hb4, hg6, (Array.getElem?_eq_some_iff.1 hrow).1, hrow⟩
  clear hrow hb4 hcs6 g10 g11 g8 g9 k8 k9 hn10 hn11 hn8 hn9 hbw1
  go_wp2
  go_loopw [6] (fun i W => ∃ k : Nat, k ≤ 4 ∧ i = .int .i64 k ∧ OfRel w xs g6 y8 y9 k W) (fun i _ => 4 - (intOf i).toNat)
  case atStart => exact ⟨0, by omega, rfl, hrel0⟩
  case round =>
    obtain ⟨k, hk, rfl, hRel⟩ := hrel
    clear hrel0 m0 m1 m2 m3 m4 f0 f1 f2 f3 f4 hb1 hsz1 hg6l
    obtain ⟨hbR, hg6', hg6l0, hrow⟩ := hRel
    have hsR : w.heap.size + 1 ≤ wr.heap.size := by have := hbR.size; simpa using this
    have hbw : Below w.heap.size w wr := ((Below.refl _ _).alloc (Nat.le_refl _) _).trans (hbR.mono (by omega))
    have hrW := h.below' hbw (Nat.le_refl _)
    by_cases hlt : k < 4
    · obtain ⟨c0, c1, -, -, -⟩ := row5 hrow
      obtain ⟨f0, f1, -, -, -⟩ := row5f hrow
      have gk0 : wr.cell? ⟨b, o + k, none⟩ = some (.int .u8 (xs.getD k 0)) := hrW.cells k (by omega)
      have hbW0 : b < wr.heap.size := by omega
      have p0 := pw_range xs h.rng k (by omega)
      have hd4 : ∀ j, 0 ≤ (xs.drop 4).getD j 0 ∧ (xs.drop 4).getD j 0 < 256 := (hrW.cut_some (k := 4) (by omega)).rng
      have p1 := pw_range (xs.drop 4) hd4 k (by omega)
      have rk0 := h.rng k
      have rk1 := h.rng (4 + k)
      have eP0 := Lib.hid (show pw (k + 1) xs = pw k xs * 256 + xs.getD k 0 from rfl)
      have eP1 := Lib.hid (show pw (k + 1) (xs.drop 4) = pw k (xs.drop 4) * 256 + xs.getD (4 + k) 0 by simp [pw, List.getD, List.getElem?_drop])
      have gk1' : wr.cell? ⟨b, o + (4 + k), none⟩ = some (.int .u8 (xs.getD (4 + k) 0)) := hrW.cells (4 + k) (by omega)
      clear hd4
      generalize xs.getD k 0 = yk at *
      generalize xs.getD (4 + k) 0 = yk4 at *
      generalize pw k xs = P0 at *
      generalize pw k (xs.drop 4) = P1 at *
      have hik : (k : Int) < n := by omega
      have hik4 : (4 + k : Int) < n := by omega
      go_wp2
      refine wp_region_walk (fun w' => Below wr.heap.size wr w') [[], [(48, 0)], [(49, 1)], [], [], [(51, 3), (52, 4)], [(53, 5)], [(54, 6)], [(50, 2), (55, 7)], []]
        [(48, 0), (49, 1), (50, 2), (51, 3), (52, 4), (53, 5), (54, 6), (55, 7), (56, 8), (57, 9)] (by kernel_rfl) (by kernel_rfl) (by kernel_rfl) (Below.refl _ _).drew ?_
      apply Flow.det_step
      · go_light
        intro w1 hC1
        simp only [Flow.fill, Flow.after, Flow.at_, List.nil_append, List.cons_append, List.getD_cons_zero, List.getD_cons_succ, det, forall_eq, List.setIfInBounds_toArray, List.set_cons_zero, List.set_cons_succ, List.drop, List.length]
        have hb3 := hC1
        have m0 := (hb3.cell (p := ⟨g6, 0, none⟩) hg6l0).trans c0; have kb := (hb3.cell (p := ⟨b, o + k, none⟩) hbW0).trans gk0
        go_wp2
        exact Flow.post_det hb3 (Grow.refl _) rfl rfl
      apply Flow.det_step
      · go_light
        intro w1 hC1
        simp only [Flow.fill, Flow.after, Flow.at_, List.nil_append, List.cons_append, List.getD_cons_zero, List.getD_cons_succ, det, forall_eq, List.setIfInBounds_toArray, List.set_cons_zero, List.set_cons_succ, List.drop, List.length]
        have hb3 := hC1
        have m0 := (hb3.cell (p := ⟨g6, 0, none⟩) hg6l0).trans c0; have kb := (hb3.cell (p := ⟨b, o + k, none⟩) hbW0).trans gk0
        go_wp2
        exact Flow.post_det hb3 (Grow.refl _) rfl rfl
      apply Flow.det_step
      · go_light
        intro w1 hC1
        simp only [Flow.fill, Flow.after, Flow.at_, List.nil_append, List.cons_append, List.getD_cons_zero, List.getD_cons_succ, det, forall_eq, List.setIfInBounds_toArray, List.set_cons_zero, List.set_cons_succ, List.drop, List.length]
        have hb3 := hC1
        have m0 := (hb3.cell (p := ⟨g6, 0, none⟩) hg6l0).trans c0; have kb := (hb3.cell (p := ⟨b, o + k, none⟩) hbW0).trans gk0
        go_wp2
        exact Flow.post_det hb3 (Grow.refl _) rfl rfl
      apply Flow.det_step
      · go_light
        intro w1 hC1
        simp only [Flow.fill, Flow.after, Flow.at_, List.nil_append, List.cons_append, List.getD_cons_zero, List.getD_cons_succ, det, forall_eq, List.setIfInBounds_toArray, List.set_cons_zero, List.set_cons_succ, List.drop, List.length]
        have hb3 := hC1
        have m0 := (hb3.cell (p := ⟨g6, 0, none⟩) hg6l0).trans c0; have kb := (hb3.cell (p := ⟨b, o + k, none⟩) hbW0).trans gk0
        go_wp2
        exact Flow.post_det hb3 (Grow.refl _) rfl rfl
      apply Flow.det_step
      · go_light
        intro w1 hC1
        simp only [Flow.fill, Flow.after, Flow.at_, List.nil_append, List.cons_append, List.getD_cons_zero, List.getD_cons_succ, det, forall_eq, List.setIfInBounds_toArray, List.set_cons_zero, List.set_cons_succ, List.drop, List.length]
        have hb3 := hC1
        have m0 := (hb3.cell (p := ⟨g6, 0, none⟩) hg6l0).trans c0; have kb := (hb3.cell (p := ⟨b, o + k, none⟩) hbW0).trans gk0
        go_wp2
        exact Flow.post_det hb3 (Grow.refl _) rfl rfl
      apply Flow.det_step
      · go_light
        intro w1 hC1
        simp only [Flow.fill, Flow.after, Flow.at_, List.nil_append, List.cons_append, List.getD_cons_zero, List.getD_cons_succ, det, forall_eq, List.setIfInBounds_toArray, List.set_cons_zero, List.set_cons_succ, List.drop, List.length]
        have hb3 := hC1
        have m0 := (hb3.cell (p := ⟨g6, 0, none⟩) hg6l0).trans c0; have kb := (hb3.cell (p := ⟨b, o + k, none⟩) hbW0).trans gk0
        go_wp2
        exact Flow.post_det hb3 (Grow.refl _) rfl rfl
      apply Flow.det_step
      · go_light
        intro w1 hC1
        simp only [Flow.fill, Flow.after, Flow.at_, List.nil_append, List.cons_append, List.getD_cons_zero, List.getD_cons_succ, det, forall_eq, List.setIfInBounds_toArray, List.set_cons_zero, List.set_cons_succ, List.drop, List.length]
        have hb3 := hC1
        have m0 := (hb3.cell (p := ⟨g6, 0, none⟩) hg6l0).trans c0; have kb := (hb3.cell (p := ⟨b, o + k, none⟩) hbW0).trans gk0
        go_wp2
        exact Flow.post_det hb3 (Grow.refl _) rfl rfl
      apply Flow.det_step
      · go_light
        intro w1 hC1
        simp only [Flow.fill, Flow.after, Flow.at_, List.nil_append, List.cons_append, List.getD_cons_zero, List.getD_cons_succ, det, forall_eq, List.setIfInBounds_toArray, List.set_cons_zero, List.set_cons_succ, List.drop, List.length]
        have hb3 := hC1
        have m0 := (hb3.cell (p := ⟨g6, 0, none⟩) hg6l0).trans c0; have kb := (hb3.cell (p := ⟨b, o + k, none⟩) hbW0).trans gk0
        go_wp2
        exact Flow.post_det hb3 (Grow.refl _) rfl rfl
      apply Flow.det_step
      · go_light
        intro w1 hC1
        simp only [Flow.fill, Flow.after, Flow.at_, List.nil_append, List.cons_append, List.getD_cons_zero, List.getD_cons_succ, det, forall_eq, List.setIfInBounds_toArray, List.set_cons_zero, List.set_cons_succ, List.drop, List.length]
        have hb3 := hC1
        have m0 := (hb3.cell (p := ⟨g6, 0, none⟩) hg6l0).trans c0; have kb := (hb3.cell (p := ⟨b, o + k, none⟩) hbW0).trans gk0
        go_wp2
        exact Flow.post_det hb3 (Grow.refl _) rfl rfl
      apply Flow.det_step
      · go_light
        intro w1 hC1
        simp only [Flow.fill, Flow.after, Flow.at_, List.nil_append, List.cons_append, List.getD_cons_zero, List.getD_cons_succ, det, forall_eq, List.setIfInBounds_toArray, List.set_cons_zero, List.set_cons_succ, List.drop, List.length]
        have hb3 := hC1
        have m0 := (hb3.cell (p := ⟨g6, 0, none⟩) hg6l0).trans c0; have kb := (hb3.cell (p := ⟨b, o + k, none⟩) hbW0).trans gk0
        go_wp2
        exact Flow.post_det hb3 (Grow.refl _) rfl rfl
      intro w1 hC1
      simp only [Flow.fill, Flow.after, Flow.at_, List.nil_append, List.cons_append, List.getD_cons_zero, List.getD_cons_succ, det, forall_eq, List.setIfInBounds_toArray, List.set_cons_zero, List.set_cons_succ, List.drop, List.length]
      have hb3 := hC1
      have m0 := (hb3.cell (p := ⟨g6, 0, none⟩) hg6l0).trans c0; have z0 := (hb3.frozen (p := ⟨g6, 0, none⟩) hg6l0).trans f0; have hs3 := hb3.size
      go_wp2
      obtain ⟨W2, hW2⟩ : ∃ W2, W2 = w1.setCell ⟨g6, 0, none⟩ (.int .u32 (P0 * 256 + yk)) := ⟨_, rfl⟩
      have hrow2 := row_set ((hb3.block g6 hg6l0).trans hrow) 0 (.int .u32 (P0 * 256 + yk))
      have hb2' : Below (w.heap.size + 1) _ (w1.setCell ⟨g6, 0, none⟩ (.int .u32 (P0 * 256 + yk))) := (hbR.trans (hb3.mono hsR)).setCell (by exact hg6') _
      have gk1 := ((Below.setCell (hb3.mono (B' := w.heap.size + 1) hsR) (p := ⟨g6, 0, none⟩) (by exact hg6') (.int .u32 (P0 * 256 + yk))).cell (p := ⟨b, o + (4 + k), none⟩) (by show b < _; omega)).trans gk1'
      rw [← hW2] at hrow2 hb2' gk1 ⊢
      clear hW2 m0 z0 c0 c1 f0 f1 gk0 gk1'
      have hg6l1 : g6 < W2.heap.size := (Array.getElem?_eq_some_iff.1 hrow2).1
      have hbW1 : b < W2.heap.size := by omega
      obtain ⟨-, c1, -, -, -⟩ := row5 hrow2
      obtain ⟨-, f1, -, -, -⟩ := row5f hrow2
      have hs2' : w.heap.size + 1 ≤ W2.heap.size := by have := hb2'.size; simpa using this
      refine wp_region_walk (fun w' => Below W2.heap.size W2 w') [[], [(58, 0)], [(59, 1)], [], [], [(62, 4)], [(61, 3), (63, 5)], [(64, 6)], [(65, 7)], [(60, 2), (66, 8)], []]
        [(58, 0), (59, 1), (60, 2), (61, 3), (62, 4), (63, 5), (64, 6), (65, 7), (66, 8), (67, 9), (68, 10)] (by kernel_rfl) (by kernel_rfl) (by kernel_rfl) (Below.refl _ _).drew ?_
      apply Flow.det_step
      · go_light
        intro w1 hC1
        simp only [Flow.fill, Flow.after, Flow.at_, List.nil_append, List.cons_append, List.getD_cons_zero, List.getD_cons_succ, det, forall_eq, List.setIfInBounds_toArray, List.set_cons_zero, List.set_cons_succ, List.drop, List.length]
        have hb3 := hC1
        have m0 := (hb3.cell (p := ⟨g6, 1, none⟩) hg6l1).trans c1; have kb := (hb3.cell (p := ⟨b, o + (4 + k), none⟩) hbW1).trans gk1
        go_wp2
        exact Flow.post_det hb3 (Grow.refl _) rfl rfl
      apply Flow.det_step
      · go_light
        intro w1 hC1
        simp only [Flow.fill, Flow.after, Flow.at_, List.nil_append, List.cons_append, List.getD_cons_zero, List.getD_cons_succ, det, forall_eq, List.setIfInBounds_toArray, List.set_cons_zero, List.set_cons_succ, List.drop, List.length]
        have hb3 := hC1
        have m0 := (hb3.cell (p := ⟨g6, 1, none⟩) hg6l1).trans c1; have kb := (hb3.cell (p := ⟨b, o + (4 + k), none⟩) hbW1).trans gk1
        go_wp2
        exact Flow.post_det hb3 (Grow.refl _) rfl rfl
      apply Flow.det_step
      · go_light
        intro w1 hC1
        simp only [Flow.fill, Flow.after, Flow.at_, List.nil_append, List.cons_append, List.getD_cons_zero, List.getD_cons_succ, det, forall_eq, List.setIfInBounds_toArray, List.set_cons_zero, List.set_cons_succ, List.drop, List.length]
        have hb3 := hC1
        have m0 := (hb3.cell (p := ⟨g6, 1, none⟩) hg6l1).trans c1; have kb := (hb3.cell (p := ⟨b, o + (4 + k), none⟩) hbW1).trans gk1
        go_wp2
        exact Flow.post_det hb3 (Grow.refl _) rfl rfl
      apply Flow.det_step
      · go_light
        intro w1 hC1
        simp only [Flow.fill, Flow.after, Flow.at_, List.nil_append, List.cons_append, List.getD_cons_zero, List.getD_cons_succ, det, forall_eq, List.setIfInBounds_toArray, List.set_cons_zero, List.set_cons_succ, List.drop, List.length]
        have hb3 := hC1
        have m0 := (hb3.cell (p := ⟨g6, 1, none⟩) hg6l1).trans c1; have kb := (hb3.cell (p := ⟨b, o + (4 + k), none⟩) hbW1).trans gk1
        go_wp2
        exact Flow.post_det hb3 (Grow.refl _) rfl rfl
      apply Flow.det_step
      · go_light
        intro w1 hC1
        simp only [Flow.fill, Flow.after, Flow.at_, List.nil_append, List.cons_append, List.getD_cons_zero, List.getD_cons_succ, det, forall_eq, List.setIfInBounds_toArray, List.set_cons_zero, List.set_cons_succ, List.drop, List.length]
        have hb3 := hC1
        have m0 := (hb3.cell (p := ⟨g6, 1, none⟩) hg6l1).trans c1; have kb := (hb3.cell (p := ⟨b, o + (4 + k), none⟩) hbW1).trans gk1
        go_wp2
        exact Flow.post_det hb3 (Grow.refl _) rfl rfl
      apply Flow.det_step
      · go_light
        intro w1 hC1
        simp only [Flow.fill, Flow.after, Flow.at_, List.nil_append, List.cons_append, List.getD_cons_zero, List.getD_cons_succ, det, forall_eq, List.setIfInBounds_toArray, List.set_cons_zero, List.set_cons_succ, List.drop, List.length]
        have hb3 := hC1
        have m0 := (hb3.cell (p := ⟨g6, 1, none⟩) hg6l1).trans c1; have kb := (hb3.cell (p := ⟨b, o + (4 + k), none⟩) hbW1).trans gk1
        go_wp2
        exact Flow.post_det hb3 (Grow.refl _) rfl rfl
      apply Flow.det_step
      · go_light
        intro w1 hC1
        simp only [Flow.fill, Flow.after, Flow.at_, List.nil_append, List.cons_append, List.getD_cons_zero, List.getD_cons_succ, det, forall_eq, List.setIfInBounds_toArray, List.set_cons_zero, List.set_cons_succ, List.drop, List.length]
        have hb3 := hC1
        have m0 := (hb3.cell (p := ⟨g6, 1, none⟩) hg6l1).trans c1; have kb := (hb3.cell (p := ⟨b, o + (4 + k), none⟩) hbW1).trans gk1
        go_wp2
        exact Flow.post_det hb3 (Grow.refl _) rfl rfl
      apply Flow.det_step
      · go_light
        intro w1 hC1
        simp only [Flow.fill, Flow.after, Flow.at_, List.nil_append, List.cons_append, List.getD_cons_zero, List.getD_cons_succ, det, forall_eq, List.setIfInBounds_toArray, List.set_cons_zero, List.set_cons_succ, List.drop, List.length]
        have hb3 := hC1
        have m0 := (hb3.cell (p := ⟨g6, 1, none⟩) hg6l1).trans c1; have kb := (hb3.cell (p := ⟨b, o + (4 + k), none⟩) hbW1).trans gk1
        go_wp2
        exact Flow.post_det hb3 (Grow.refl _) rfl rfl
      apply Flow.det_step
      · go_light
        intro w1 hC1
        simp only [Flow.fill, Flow.after, Flow.at_, List.nil_append, List.cons_append, List.getD_cons_zero, List.getD_cons_succ, det, forall_eq, List.setIfInBounds_toArray, List.set_cons_zero, List.set_cons_succ, List.drop, List.length]
        have hb3 := hC1
        have m0 := (hb3.cell (p := ⟨g6, 1, none⟩) hg6l1).trans c1; have kb := (hb3.cell (p := ⟨b, o + (4 + k), none⟩) hbW1).trans gk1
        go_wp2
        exact Flow.post_det hb3 (Grow.refl _) rfl rfl
      apply Flow.det_step
      · go_light
        intro w1 hC1
        simp only [Flow.fill, Flow.after, Flow.at_, List.nil_append, List.cons_append, List.getD_cons_zero, List.getD_cons_succ, det, forall_eq, List.setIfInBounds_toArray, List.set_cons_zero, List.set_cons_succ, List.drop, List.length]
        have hb3 := hC1
        have m0 := (hb3.cell (p := ⟨g6, 1, none⟩) hg6l1).trans c1; have kb := (hb3.cell (p := ⟨b, o + (4 + k), none⟩) hbW1).trans gk1
        go_wp2
        exact Flow.post_det hb3 (Grow.refl _) rfl rfl
      apply Flow.det_step
      · go_light
        intro w1 hC1
        simp only [Flow.fill, Flow.after, Flow.at_, List.nil_append, List.cons_append, List.getD_cons_zero, List.getD_cons_succ, det, forall_eq, List.setIfInBounds_toArray, List.set_cons_zero, List.set_cons_succ, List.drop, List.length]
        have hb3 := hC1
        have m0 := (hb3.cell (p := ⟨g6, 1, none⟩) hg6l1).trans c1; have kb := (hb3.cell (p := ⟨b, o + (4 + k), none⟩) hbW1).trans gk1
        go_wp2
        exact Flow.post_det hb3 (Grow.refl _) rfl rfl
      intro w1 hC1
      simp only [Flow.fill, Flow.after, Flow.at_, List.nil_append, List.cons_append, List.getD_cons_zero, List.getD_cons_succ, det, forall_eq, List.setIfInBounds_toArray, List.set_cons_zero, List.set_cons_succ, List.drop, List.length]
      have hb3 := hC1
      have m0 := (hb3.cell (p := ⟨g6, 1, none⟩) hg6l1).trans c1; have z0 := (hb3.frozen (p := ⟨g6, 1, none⟩) hg6l1).trans f1; have hs3 := hb3.size
      go_wp2
      go_light
      go_roundw
      case rel =>
        refine ⟨k + 1, by omega, by go_num, (hb2'.trans (hb3.mono hs2')).setCell (by exact hg6') _, hg6', ?_, ?_⟩
        · have := row_set ((hb3.block g6 hg6l1).trans hrow2) 1 (.int .u32 (P1 * 256 + yk4))
          exact (Array.getElem?_eq_some_iff.1 this).1
        · have := row_set ((hb3.block g6 hg6l1).trans hrow2) 1 (.int .u32 (P1 * 256 + yk4))
          rw [eP0.out, eP1.out]
          exact this
      case measure => simp [intOf]; omega
    · obtain rfl : k = 4 := by omega
      rw [pw_four, pw_four] at hrow
      obtain ⟨m0, m1, m2, m3, m4⟩ := row5 hrow
      obtain ⟨f0, f1, f2, f3, f4⟩ := row5f hrow
      obtain ⟨A14, hsl, hr14⟩ := cut_run Try.prog (t := 23) (e := 5) Try.underlying23 (by kernel_rfl) (fun W => by kernel_rfl) h 14 c (by omega) hc
      obtain ⟨i0, hi0, hz0, hz1, hz2⟩ := info_parts u8info
      have hsl' : ∀ W, (Instr.slice 23 (.slice (some ⟨b, o, none⟩) n c) (some (.int .i64 14)) none none).run Try.prog W = .ok (.slice A14 (n - 14) (c - 14)) W := hsl
      clear hsl
      have hr14' := hr14.below' hbw (Nat.le_refl _)
      go_wp2_with (first | (refine wpList_slice_l rfl 23 5 (.tmp 69) (.const (.int .i64 14)) rfl Try.underlying23 _ _ rfl rfl _ (hsl' _) ?_) | (at_builtin; refine wpList_append_reads _ rfl (.const (.slice none 0 0)) (.tmp 70) _ rfl (w.heap.size + 1) 5 i0 _ 1 1 Try.underlying23 hi0 hz0 hz1 hz2 rfl (by omega) (.slice none 0 0) 0 [] rfl (World.ownsRow_nil _ _ _ _) _ A14 (n - 14) (c - 14) _ rfl hr14'.1 (u8_oneCell _) (by simp only [maxLen]; omega) (by omega) hsR ?_; intro v71 w2 hown2 hgr2 hat2; obtain ⟨A71, c71, ev, -⟩ := own_shape hown2; rw [ev] at hown2 ⊢; have hG2 : Grow wr w2 := Grow.of_none hgr2; have hrow2 := (hG2.block g6 hg6l0).trans hrow; have n4 : w2.cell? ⟨g6, 4, none⟩ = some (.slice none 0 0) := (row5 hrow2).2.2.2.2; have z4 : w2.frozen? ⟨g6, 4, none⟩ = false := (row5f hrow2).2.2.2.2))
      have hne := own_row_ne hown2 hrow2 (by decide)
      have hg5 := grown_set w2 w2 g6 (World.grownBy.refl _ _) 4 (.slice A71 (0 + (n - 14)) c71)
      have ho3 := hown2.kept hg5 (.inr hne)
      have hrow3 := row_set hrow2 4 (.slice A71 (0 + (n - 14)) c71)
      have hb3 : Below (w.heap.size + 1) _ (w2.setCell ⟨g6, 4, none⟩ (.slice A71 (0 + (n - 14)) c71)) := (hbR.trans (hG2.mono hsR)).setCell (by exact hg6') _
      rw [Nat.zero_add] at hne ho3 hrow3 hb3
      rw [List.nil_append] at ho3
      have hsz3 := hb3.size
      simp only [World.size_alloc] at hsz3
      have hbw3 : Below w.heap.size w _ := ((Below.refl _ _).alloc (Nat.le_refl _) _).trans (hb3.mono (by omega))
      obtain ⟨w3, hw3⟩ : ∃ w3, w3 = w2.setCell ⟨g6, 4, none⟩ (.slice A71 (n - 14) c71) := ⟨_, rfl⟩
      rw [← hw3] at ho3 hrow3 hb3 hsz3 hbw3 ⊢
      clear hw3 hne hg5 hown2 hgr2 hat2 n4 z4 hrow2 hG2 m0 m1 m2 m3 m4 f0 f1 f2 f3 f4 hbR hbw hrW hrow hg6l0 hr14'
      have hrB := h.below' hbw3 (Nat.le_refl _)
      have hrA := hr14.below' hbw3 (Nat.le_refl _)
      have hsb := fun W s => Lib.run_convert_string_bytes (P := Try.prog) W 9 23 5 s Try.underlying9 Try.underlying23 Try.underlying5
      have eS : strOfNums (xs.take 12) ++ ByteArray.mk #[0, 0] ++ strOfNums (xs.drop 14) = strOfNums (plainI xs) := by
        rw [show ByteArray.mk #[0, 0] = strOfNums [0, 0] from rfl, strOfNums_append, strOfNums_append]; rfl
      have hpl : (plainI xs).length = n := by
        have := hl.out
        simp only [plainI, List.length_append, List.length_take, List.length_drop, List.length_cons, List.length_nil]; omega
      have hpz : (strOfNums (plainI xs)).size = n := by rw [strOfNums_size, hpl]
      have hpb : Byt (plainI xs) := by
        intro y hy
        simp only [plainI, List.mem_append] at hy
        rcases hy with (hy | hy) | hy
        · exact h.2 y (List.mem_of_mem_take hy)
        · simp at hy; omega
        · exact h.2 y (List.mem_of_mem_drop hy)
      have hbyt : ∀ W : World, RB (Lib.bytesWorld W 5 (strOfNums (plainI xs))) (Lib.bytesWorld W 5 (strOfNums (plainI xs))).heap.size (some ⟨W.heap.size, 0, none⟩) n (plainI xs) := fun W => by
        have := RB.bytes W 5 (plainI xs) hpb
        rw [hpl] at this
        exact this.more (by rw [Lib.bytesWorld_size]; exact Nat.le_refl _)
      have hs := sum_range _ hpb
      clear hpl
      have hrT := hrB.take_some (k := 12) (by omega)
      have lT : (xs.take 12).length ≤ 12 := List.length_take_le _ _
      have lD : (xs.drop 14).length ≤ 1000 := by rw [List.length_drop, hl.out]; omega
      obtain ⟨TK, hTK⟩ : ∃ TK, TK = xs.take 12 := ⟨_, rfl⟩
      obtain ⟨DR, hDR⟩ : ∃ DR, DR = xs.drop 14 := ⟨_, rfl⟩
      rw [← hTK] at hrT eS lT
      rw [← hDR] at hrA eS lD ho3
      have HDR := Lib.hid hDR
      clear hTK hDR hr14
      go_wp2
      refine wp_region_walk (fun w' => Below w3.heap.size w3 w') [[], [(73, 0)], [(74, 1)], [(75, 2)], [], [(77, 4)], [(78, 5)], [(76, 3), (79, 6)], [(80, 7)], [(81, 8)]]
        [(73, 0), (74, 1), (75, 2), (76, 3), (77, 4), (78, 5), (79, 6), (80, 7), (81, 8), (82, 9)] (by kernel_rfl) (by kernel_rfl) (by kernel_rfl) (Below.refl _ _).drew ?_
      apply Flow.det_step
      · go_light
        intro w1 hC1
        simp only [Flow.fill, Flow.after, Flow.at_, List.nil_append, List.cons_append, List.getD_cons_zero, List.getD_cons_succ, det, forall_eq, List.setIfInBounds_toArray, List.set_cons_zero, List.set_cons_succ, List.drop, List.length]
        have hb4 := hC1
        go_wp2
        exact Flow.post_det hb4 (Grow.refl _) rfl rfl
      apply Flow.det_step
      · go_light
        intro w1 hC1
        simp only [Flow.fill, Flow.after, Flow.at_, List.nil_append, List.cons_append, List.getD_cons_zero, List.getD_cons_succ, det, forall_eq, List.setIfInBounds_toArray, List.set_cons_zero, List.set_cons_succ, List.drop, List.length]
        have hb4 := hC1
        have hi12 : (12 : Int) ≤ c := by omega
        have hc0 : ¬ c = 0 := by omega
        go_wp2
        exact Flow.post_det hb4 (Grow.refl _) rfl rfl
      apply Flow.det_step
      · go_light
        intro w1 hC1
        simp only [Flow.fill, Flow.after, Flow.at_, List.nil_append, List.cons_append, List.getD_cons_zero, List.getD_cons_succ, det, forall_eq, List.setIfInBounds_toArray, List.set_cons_zero, List.set_cons_succ, List.drop, List.length]
        have hb4 := hC1
        have e1 := (hrT.below' hb4 (by omega)).conv (P := Try.prog) c 23 9 5 Try.underlying23 Try.underlying5 Try.underlying9
        go_wp2
        exact Flow.post_det hb4 (Grow.refl _) rfl rfl
      apply Flow.det_step
      · go_light
        intro w1 hC1
        simp only [Flow.fill, Flow.after, Flow.at_, List.nil_append, List.cons_append, List.getD_cons_zero, List.getD_cons_succ, det, forall_eq, List.setIfInBounds_toArray, List.set_cons_zero, List.set_cons_succ, List.drop, List.length]
        have hb4 := hC1
        have hss : ∀ l, (strOfNums l).size = l.length := strOfNums_size
        go_wp2
        exact Flow.post_det hb4 (Grow.refl _) rfl rfl
      apply Flow.det_step
      · go_light
        intro w1 hC1
        simp only [Flow.fill, Flow.after, Flow.at_, List.nil_append, List.cons_append, List.getD_cons_zero, List.getD_cons_succ, det, forall_eq, List.setIfInBounds_toArray, List.set_cons_zero, List.set_cons_succ, List.drop, List.length]
        have hb4 := hC1
        go_wp2
        exact Flow.post_det hb4 (Grow.refl _) rfl rfl
      apply Flow.det_step
      · go_light
        intro w1 hC1
        simp only [Flow.fill, Flow.after, Flow.at_, List.nil_append, List.cons_append, List.getD_cons_zero, List.getD_cons_succ, det, forall_eq, List.setIfInBounds_toArray, List.set_cons_zero, List.set_cons_succ, List.drop, List.length]
        have hb4 := hC1
        go_wp2_with (refine wpList_slice_l rfl 23 5 (.tmp 77) (.const (.int .i64 14)) rfl Try.underlying23 _ _ rfl rfl _ (hsl' _) ?_)
        exact Flow.post_det hb4 (Grow.refl _) rfl rfl
      apply Flow.det_step
      · go_light
        intro w1 hC1
        simp only [Flow.fill, Flow.after, Flow.at_, List.nil_append, List.cons_append, List.getD_cons_zero, List.getD_cons_succ, det, forall_eq, List.setIfInBounds_toArray, List.set_cons_zero, List.set_cons_succ, List.drop, List.length]
        have hb4 := hC1
        have e1 := (hrA.below' hb4 (by omega)).conv (P := Try.prog) (c - 14) 23 9 5 Try.underlying23 Try.underlying5 Try.underlying9
        go_wp2
        exact Flow.post_det hb4 (Grow.refl _) rfl rfl
      apply Flow.det_step
      · go_light
        intro w1 hC1
        simp only [Flow.fill, Flow.after, Flow.at_, List.nil_append, List.cons_append, List.getD_cons_zero, List.getD_cons_succ, det, forall_eq, List.setIfInBounds_toArray, List.set_cons_zero, List.set_cons_succ, List.drop, List.length]
        have hb4 := hC1
        have hss : ∀ l, (strOfNums l).size = l.length := strOfNums_size
        go_wp2
        exact Flow.post_det hb4 (Grow.refl _) rfl rfl
      refine Flow.st_step (rbSt n (plainI xs)) ?_ ?_
      · go_light
        intro w1 hC1
        simp only [Flow.fill, Flow.after, Flow.at_, List.nil_append, List.cons_append, List.getD_cons_zero, List.getD_cons_succ, det, forall_eq, List.setIfInBounds_toArray, List.set_cons_zero, List.set_cons_succ, List.drop, List.length]
        have hb4 := hC1
        go_wp2
        exact Flow.post_st (hb4.trans ((below_bytes _ _ _).mono hb4.size)) (below_bytes _ _ _) rfl rfl ⟨_, _, rfl, hbyt _⟩
      apply Flow.det_step
      · go_light
        intro w1 hC1
        simp only [Flow.fill, Flow.after, Flow.at_, List.nil_append, List.cons_append, List.getD_cons_zero, List.getD_cons_succ, det, forall_eq, List.setIfInBounds_toArray, List.set_cons_zero, List.set_cons_succ, List.drop, List.length]
        rintro _ ⟨A81, c81, rfl, hr81⟩
        have hb4 := hC1
        go_wp2_with (go_at_call 20; refine (segSum_any _ _ _ (plainI xs) _ hr81 (by omega)).mono ?_; rintro e w4 ⟨rfl, hg2⟩)
        exact Flow.post_det (hb4.trans (hg2.mono hb4.size)) hg2 rfl rfl
      intro w1 hC1
      simp only [Flow.fill, Flow.after, Flow.at_, List.nil_append, List.cons_append, List.getD_cons_zero, List.getD_cons_succ, det, forall_eq, List.setIfInBounds_toArray, List.set_cons_zero, List.set_cons_succ, List.drop, List.length]
      rintro _ -
      have hb4 := hC1
      have hs4 := hb4.size
      have hbZ := hb3.trans (hb4.mono hsz3)
      have hbw4 := hbw3.trans (hb4.mono (by omega))
      have hrB4 := h.below' hbw4 (Nat.le_refl _)
      have g12 := hrB4.cells 12 (by omega)
      have g13 := hrB4.cells 13 (by omega)
      have r12 := h.rng 12
      have r13 := h.rng 13
      have hg63 : g6 < w3.heap.size := (Array.getElem?_eq_some_iff.1 hrow3).1
      have hrow4 := (hb4.block g6 hg63).trans hrow3
      have ho4 := ho3.kept (Grow.by_ hb4 none) (by cases (Value.slice A71 (n - 14) c71).ownBlock <;> simp)
      have hr0 := HR.out
      rw [hl.out] at hr0
      clear HR
      obtain ⟨S, hS⟩ : ∃ S, S = sumI (plainI xs) := ⟨_, rfl⟩
      rw [← hS] at hs hr0 ⊢
      generalize xs.getD 12 0 = y12 at *
      generalize xs.getD 13 0 = y13 at *
      have HR0 := Lib.hid hr0
      clear hr0 hS eS hbyt hpz hsb hsl' hrA hrT hrB hrow3 ho3 hb3 hbw3 hpb
      have hi12 : (12 : Int) < n := by omega
      have hi13 : (13 : Int) < n := by omega
      have hbl : b < w1.heap.size := by omega
      have hsz4 : w.heap.size + 1 ≤ w1.heap.size := by omega
      by_cases hsum : y12 * 256 + y13 ≠ S
      · have hsB : (y12 * 256 + y13 != S) = true := by simpa using hsum
        have hr0 := HR0.out
        rw [if_pos hsum] at hr0
        clear HR0 hsum
        subst hr0
        go_wp2
        refine wp_region_near w1.heap.size (by kernel_rfl) (by kernel_rfl) ?_
        repeat (go_big_quiet_step (fail))
        refine wpQuiet_nil ?_
        intro w5 hb5
        have hb5' := hbZ.trans (hb5.mono hsz4)
        have hbw5 := hbw4.trans (hb5.mono (by omega))
        obtain ⟨k0, k1, k2, k3, k4⟩ := box5 hb5'
        obtain ⟨z0, z1, z2, z3, z4⟩ := box5f hb5'
        go_wp2
        exact bodyPost_ret (v := .tuple #[.agg #[.int .u32 0, .int .u32 0, .int .i64 0, .int .i64 0, .slice none 0 0], .int .i64 20]) (by simp [results, Try.results22, go_sem, k0, k1, k2, k3, k4]) rfl (.of_bad (below5 hbw5 (Nat.le_refl _) _ _ _ _ _))
      · have hsB : (y12 * 256 + y13 != S) = false := by simpa using hsum
        have hr0 := HR0.out
        rw [if_neg hsum] at hr0
        have HR1 := Lib.hid hr0
        clear HR0 hsum hr0
        go_wp2
        refine wp_region_near w1.heap.size (by kernel_rfl) (by kernel_rfl) ?_
        repeat (go_big_quiet_step (fail))
        refine wpQuiet_nil ?_
        intro w5 hb5
        have hb5' := hbZ.trans (hb5.mono hsz4)
        have hbw5 := hbw4.trans (hb5.mono (by omega))
        have hs5 := hb5.size
        have hg64 : g6 < w1.heap.size := (Array.getElem?_eq_some_iff.1 hrow4).1
        have hrow5 := (hb5.block g6 hg64).trans hrow4
        have ho5 := ho4.kept (Grow.by_ hb5 none) (by cases (Value.slice A71 (n - 14) c71).ownBlock <;> simp)
        obtain ⟨m0, m1, m2, m3, m4⟩ := row5 hrow5
        clear g12 g13 hb5 hbZ hbw4 hrow4 ho4
        go_wp2_with fail
        refine (segFault_any _ _ _ _ _ _ _ _ (by omega) (by omega)).mono ?_
        rintro e w6 ⟨rfl, hb6⟩
        have hb6' := hb5'.trans (hb6.mono (by omega))
        have hbw6 := hbw5.trans (hb6.mono (by omega))
        have hrow6 := (hb6.block g6 (by omega)).trans hrow5
        have ho6 := ho5.kept (Grow.by_ hb6 none) (by cases (Value.slice A71 (n - 14) c71).ownBlock <;> simp)
        clear m0 m1 m2 m3 m4
        obtain ⟨m0, m1, m2, m3, m4⟩ := row5 hrow6
        obtain ⟨k0, k1, k2, k3, k4⟩ := box5 hb6'
        obtain ⟨z0, z1, z2, z3, z4⟩ := box5f hb6'
        by_cases hck : checkI y8 y9 (n - 14) ≠ 0
        · have hr0 := HR1.out
          rw [if_pos hck] at hr0
          clear HR1
          subst hr0
          have hck' : (checkI y8 y9 (n - 14) != 0) = true := by simpa using hck
          generalize checkI y8 y9 (n - 14) = ce at *
          clear hck ho5 ho6 hrow5 hrow6
          go_wp2
          exact bodyPost_ret (v := .tuple #[.agg #[.int .u32 0, .int .u32 0, .int .i64 0, .int .i64 0, .slice none 0 0], .int .i64 ce]) (by simp [results, Try.results22, go_sem, k0, k1, k2, k3, k4]) rfl (.of_bad (below5 hbw6 (Nat.le_refl _) _ _ _ _ _))
        · have hr0 := HR1.out
          rw [if_neg hck] at hr0
          clear HR1
          subst hr0
          have hck' : checkI y8 y9 (n - 14) = 0 := by simpa using hck
          have hoF := ho6.kept (grown5 w6 w.heap.size (.int .u32 (wordI xs)) (.int .u32 (wordI (xs.drop 4))) (.int .i64 y8) (.int .i64 y9) (.slice A71 (n - 14) c71)) (.inr (fun e => by have := (ho6.lt _ e).1; omega))
          clear hck ho5 ho6 hrow5 hrow6
          go_wp2
          refine bodyPost_ret (v := .tuple #[.agg #[.int .u32 (wordI xs), .int .u32 (wordI (xs.drop 4)), .int .i64 y8, .int .i64 y9, .slice A71 (n - 14) c71], .int .i64 0]) (by simp [results, Try.results22, go_sem, k0, k1, k2, k3, k4]) rfl ?_
          rw [HDR.out] at hoF
          exact ⟨A71, n - 14, c71, rfl, RB.of_own hoF (fun x hx => h.2 x (List.mem_of_mem_drop hx)), below5 hbw6 (Nat.le_refl _) _ _ _ _ _⟩
end Go.Proofs.Ythlhjaacjhlkhaa
