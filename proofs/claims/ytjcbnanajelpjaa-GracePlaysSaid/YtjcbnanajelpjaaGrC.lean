/- Contracts of grace.over, Reads and Run. -/
import Derived.Test.YtjcbnanajelpjaaGrB
namespace Go.Proofs.Ytjcbnanajelpjaa
open Go.RowKit
set_option maxHeartbeats 400000
set_option linter.unusedVariables false
set_option linter.unusedSimpArgs false
/-- A call still waits for processor k. -/
def blocks (d t : Nat → Int) (c : GC) (k : Nat) : Bool := decide (0 < c.w k) && (decide (0 < d k) && decide (t k = c.w k))
def overB (d t : Nat → Int) (c : GC) : Bool := !(blocks d t c 0 || blocks d t c 1 || blocks d t c 2 || blocks d t c 3)
theorem overB_not {d t : Nat → Int} {c : GC} {k : Nat} (hk : k < 4) (h : blocks d t c k = true) : overB d t c = false := by
  unfold overB
  rcases lt4 hk with rfl | rfl | rfl | rfl <;> simp [h]
theorem overB_all {d t : Nat → Int} {c : GC} (h : ∀ j, j < 4 → blocks d t c j = false) : overB d t c = true := by
  unfold overB
  simp [h 0 (by omega), h 1 (by omega), h 2 (by omega), h 3 (by omega)]
theorem run_index102' (w : World) (cs : Array Value) (j : Nat) (u : Value) (hj : j < 4) (h : cs[j]? = some u) : (Instr.index 102 (.agg cs) (.int .i64 j)).run Try.prog w = .ok u w := by
  have h0 : (0 : Int) ≤ j ∧ (j : Int) < (4 : Nat) := by omega
  simp [Instr.index, run_underlying Try.underlying102, asIntOf, h0, go_sem, part, h]
  intro h64
  omega
theorem run_index102 (w : World) (f : Nat → Int) (j : Nat) (hj : j < 4) : (Instr.index 102 (.agg #[.int .i64 (f 0), .int .i64 (f 1), .int .i64 (f 2), .int .i64 (f 3)]) (.int .i64 j)).run Try.prog w = .ok (.int .i64 (f j)) w :=
  run_index102' w _ j _ hj (by rcases lt4 hj with rfl | rfl | rfl | rfl <;> rfl)
theorem gr_next {p : Nat → Prop} {k : Nat} (h : ∀ j, j < k → p j) (hk : p k) : ∀ j, j < k + 1 → p j := fun j hj => by
  rcases Nat.lt_or_ge j k with hjk | hjk
  · exact h j hjk
  · obtain rfl : j = k := by omega
    exact hk
set_option maxHeartbeats 1000000 in
set_option maxRecDepth 100000 in
theorem over_any {q : Bool} (g : Nat) (d t : Nat → Int) (v : Value) (cs : List GC) (c : GC) (w : World) (B : Nat) (h : GrSt w B g d t v cs) (hq : overB d t c = q) :
    Calls Try.prog 76 #[.pointer (some ⟨g, 0, none⟩), .agg #[.int .i64 c.id, .int .i64 (c.w 0), .int .i64 (c.w 1), .int .i64 (c.w 2), .int .i64 (c.w 3)]] w fun e w' => e = .returned (.bool q) ∧ Below w.heap.size w w' := by
  have HQ := Lib.hid hq
  clear hq
  go_enter Try.func76, Try.ntmps76
  go_wp2
  go_loop [9] (fun i => ∃ k : Nat, k ≤ 4 ∧ i = .int .i64 k ∧ Hid (∀ j, j < k → blocks d t c j = false)) (fun i => 4 - (intOf i).toNat)
  case atStart => exact ⟨0, by omega, rfl, Lib.hid (fun j hj => by omega)⟩
  case round =>
    obtain ⟨k, hk, rfl, hno⟩ := hrel
    by_cases hlt : k < 4
    · have hix := run_index102 (w.alloc (.cells #[.int .i64 c.id, .int .i64 (c.w 0), .int .i64 (c.w 1), .int .i64 (c.w 2), .int .i64 (c.w 3)] 133)) c.w k hlt
      have c0 := h.blk.cell k
      rw [gcells_d d t v hlt] at c0
      have c1 := h.blk.cell (4 + k)
      rw [gcells_t d t v hlt] at c1
      have hgl := h.blk.lt
      have hN := Lib.hid (fun x => gr_next (p := fun j => blocks d t c j = false) hno.out x)
      have hY := Lib.hid (fun x => overB_not (d := d) (t := t) (c := c) hlt x)
      have hB := Lib.hid (show blocks d t c k = (decide (0 < c.w k) && (decide (0 < d k) && decide (t k = c.w k))) from rfl)
      have hk4 : (k : Int) < 4 := by omega
      generalize c.w k = x at *
      generalize d k = y at *
      generalize t k = z at *
      by_cases h1 : 0 < x
      · by_cases h2 : 0 < y
        · by_cases h3 : z = x
          · have h3' : (z == x) = true := by simpa using h3
            have hf := Lib.hid (hY.out (by rw [hB.out]; simp [h1, h2, h3]))
            clear h3
            go_wp2
            go_ret
            exact ⟨sl_bool (by rw [← HQ.out, hf.out]), (Below.refl _ _).alloc (Nat.le_refl _) _⟩
          · have h3' : (z == x) = false := by simpa using h3
            have hf := Lib.hid (hN.out (by rw [hB.out]; simp [h1, h2, h3]))
            clear h3
            go_wp2
            go_round
            case rel => exact ⟨k + 1, by omega, by go_num, hf⟩
            case measure => simp [intOf]; omega
        · have hf := Lib.hid (hN.out (by rw [hB.out]; simp [h1, h2]))
          go_wp2
          go_round
          case rel => exact ⟨k + 1, by omega, by go_num, hf⟩
          case measure => simp [intOf]; omega
      · have hf := Lib.hid (hN.out (by rw [hB.out]; simp [h1]))
        go_wp2
        go_round
        case rel => exact ⟨k + 1, by omega, by go_num, hf⟩
        case measure => simp [intOf]; omega
    · obtain rfl : k = 4 := by omega
      have hf := Lib.hid (overB_all hno.out)
      go_wp2
      go_ret
      exact ⟨sl_bool (by rw [← HQ.out, hf.out]), (Below.refl _ _).alloc (Nat.le_refl _) _⟩
/-- A bit each for the first k that read. -/
def maskB (b : Nat → Bool) : Nat → Int
  | 0 => 0
  | k + 1 => maskB b k + if b k then (2 : Int) ^ k else 0
theorem or_next (b : Nat → Bool) (k : Nat) (hk : k < 4) (hb : b k = true) : bits BinOp.or IntKind.i64 (maskB b k) (wrap64 (2 ^ k)) = maskB b (k + 1) := by
  rcases lt4 hk with rfl | rfl | rfl | rfl
  · simp only [maskB, hb]; kernel_rfl
  · simp only [maskB, hb]; cases b 0 <;> kernel_rfl
  · simp only [maskB, hb]; cases b 0 <;> cases b 1 <;> kernel_rfl
  · simp only [maskB, hb]; cases b 0 <;> cases b 1 <;> cases b 2 <;> kernel_rfl
set_option maxHeartbeats 1000000 in
set_option maxRecDepth 100000 in
theorem reads_any (g : Nat) (d t : Nat → Int) (v : Value) (cs : List GC) (w : World) (B : Nat) (h : GrSt w B g d t v cs) :
    Calls Try.prog 63 #[.pointer (some ⟨g, 0, none⟩)] w fun e w' => e = .returned (.tuple #[.int .i64 (maskB (fun j => decide (0 < d j)) 4), .int .i64 cs.length]) ∧ ∃ n, w' = w.drewN n := by
  obtain ⟨A, c, hv, hc1, hc2⟩ := h.row.shape
  subst hv
  have hgl := h.blk.lt
  have c8 := h.blk.cell 8
  rw [show (gcells d t (.slice A cs.length c))[8]? = some (.slice A cs.length c) from rfl] at c8
  go_enter Try.func63, Try.ntmps63
  go_wp2
  go_loop [4, 6] (fun m i => ∃ k : Nat, k ≤ 4 ∧ i = .int .i64 k ∧ m = .int .i64 (maskB (fun j => decide (0 < d j)) k)) (fun _ i => 4 - (intOf i).toNat)
  case atStart => exact ⟨0, by omega, rfl, rfl⟩
  case round =>
    obtain ⟨k, hk, rfl, rfl⟩ := hrel
    by_cases hlt : k < 4
    · have c0 := h.blk.cell k
      rw [gcells_d d t (.slice A cs.length c) hlt] at c0
      have hk4 : (k : Int) < 4 := by omega
      by_cases h1 : 0 < d k
      · have ho := Lib.hid (or_next (fun j => decide (0 < d j)) k hlt (by simp [h1]))
        generalize d k = y at *
        go_wp2
        go_round
        case rel => exact ⟨k + 1, by omega, by go_num, by rw [ho.out]⟩
        case measure => simp [intOf]; omega
      · have hm := Lib.hid (show maskB (fun j => decide (0 < d j)) (k + 1) = maskB (fun j => decide (0 < d j)) k by simp [maskB, h1])
        generalize d k = y at *
        go_wp2
        go_round
        case rel => exact ⟨k + 1, by omega, by go_num, by rw [hm.out]⟩
        case measure => simp [intOf]; omega
    · obtain rfl : k = 4 := by omega
      generalize hm : maskB (fun j => decide (0 < d j)) 4 = m at *
      have HM := Lib.hid hm
      clear hm
      go_wp2
      go_quiet (fail)
      go_wp2
      go_ret2
      exact ⟨by rw [HM.out]; rfl, _, rfl⟩
end Go.Proofs.Ytjcbnanajelpjaa
