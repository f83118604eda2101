/- Contracts of Turn, List, First and Bits of prio.Prio. -/
import Derived.Test.YtenhcpobncmedaaPrE
namespace Go.Proofs.Ytenhcpobncmedaa
open Go.RowKit
set_option maxHeartbeats 400000
set_option linter.unusedVariables false
set_option linter.unusedSimpArgs false
/-- A call of a Go function as one step of a region that draws its order. -/
theorem step_call_go {P : Program} {ops : Array Oper} {o : Oper} {a : Act} {w : World} {K : Act → World → Prop} {Q : Exit → Act → World → Prop} {E : Prop} (hgd : o.guard = none) (f : FuncId) (xs : Array Operand) (ats : Array TypeId)
    (ho : o.op = .call { callee := .value (.func f), args := xs, argTypes := ats }) (args : Array Value) (hargs : xs.map a.eval = args) (hrun : (callFunc f args).run P w = .ok (.enter f args) w) (Φ : Value → World → Prop)
    (hC : Calls P f args w fun e w' => ∃ v, e = .returned v ∧ Φ v w') (h : ∀ v w', Φ v w' → K (a.put o.dst v) w') : if Region.wanted o (yielded ops a.tmps) = true then Oper.wp P o a w K Q else E := by
  have hw : Region.wanted o (yielded ops a.tmps) = true := by simp [Region.wanted, hgd]
  rw [if_pos hw]
  unfold Oper.wp
  have e : execOp a.eval o = callFunc f args := by
    obtain ⟨dst, op, ty, pos, after, guard⟩ := o
    dsimp only at ho
    subst ho
    rw [execOp_call_go, hargs]
    simp
  rw [e, hrun, Oper.upon_enter]
  refine hC.mono ?_
  rintro e' w' ⟨v, rfl, hΦ⟩
  exact h v w' hΦ
theorem run87 (args : Array Value) (w : World) : (callFunc 87 args).run Try.prog w = .ok (.enter 87 args) w := by
  have h := Try.func87
  simp [callFunc, go_sem, h, Try.f87]
set_option maxRecDepth 100000 in
theorem turn_bad (g : Nat) (v : Int) (w : World) (h : ¬ (0 ≤ v ∧ v < 8)) :
    Calls Try.prog 27 #[.pointer (some ⟨g, 0, none⟩), .int .i64 v] w fun e w' => e = .returned (.int .i64 1) ∧ w = w' := by
  by_cases h3 : v < 0
  · have d3 : decide (v < 0) = true := by simpa using h3
    clear h h3
    go_enter Try.func27, Try.ntmps27
    go_wp2
    go_ret
    exact ⟨rfl, rfl⟩
  have d3 : decide (v < 0) = false := by simpa using h3
  have d4 : decide (8 ≤ v) = true := by simp; omega
  clear h h3
  go_enter Try.func27, Try.ntmps27
  go_wp2
  go_ret
  exact ⟨rfl, rfl⟩
set_option maxRecDepth 100000 in
theorem turn_none (g v : Nat) (vs : Nat → Value) (F : Nat → List Int) (w : World) (B : Nat) (h : PSt w B g vs F) (hv : v < 8) (he : F v = []) :
    Calls Try.prog 27 #[.pointer (some ⟨g, 0, none⟩), .int .i64 v] w fun e w' => e = .returned (.int .i64 4) ∧ w = w' := by
  have hc0 := h.bits
  have hcv := Arr.cell h hv
  obtain ⟨A, c, hvv, hc1, hc2⟩ := (h.row v hv).shape
  rw [hvv, he] at hcv
  rw [show ([Value.int .u32 (maskF F)].length) = 1 from rfl] at hcv
  have hlt := h.blk.lt
  have d3 : decide ((v : Int) < 0) = false := by simp
  have d4 : decide (8 ≤ (v : Int)) = false := by simp; omega
  have hv8 : (v : Int) < 8 := by omega
  have hv0 : (0 : Int) ≤ v := by omega
  clear hvv hc1 he
  go_enter Try.func27, Try.ntmps27
  go_wp2
  go_ret
  exact ⟨rfl, rfl⟩
def TurnPost (w : World) (B g : Nat) (vs : Nat → Value) (F : Nat → List Int) (e : Ending) (w' : World) : Prop := e = .returned (.int .i64 0) ∧ PGo w B g vs F w'
/-- What the clone leaves. -/
def CloneR (B n : Nat) (xs : List Int) (w : World) (v : Value) (w' : World) : Prop := ∃ A c, v = .slice A n c ∧ Row w' B 3 1 (.slice A n c) n (xs.map (Value.int .i64)) ∧ Below w.heap.size w w'
theorem reads_cell {w : World} {g : Nat} {u : Value} (h : w.cell? ⟨g, 0, none⟩ = some u) : Reads w w.heap.size 1 (some ⟨g, 0, none⟩) 1 [u] :=
  ⟨rfl, fun _ => ⟨g, 0, rfl, pr_lt_cell h, fun j y hy => by
    cases j with
    | zero => simp at hy; subst hy; exact h
    | succ j => simp at hy⟩⟩
theorem pr_nil9 {w w8 w9 : World} {B n c8 : Nat} {A8 : Option Addr} {xs : List Value} (hb : Below w.heap.size w w8) (hr : Row w8 w.heap.size 3 1 (.slice A8 n c8) n xs) (hf : Fr (fun k => (Value.slice A8 n c8).ownBlock = some k) w8 w9) : Fr Nil w w9 :=
  (Fr.of_grow hb).trans hf (fun k hk e => by have := (hr.lt k e).1; omega)
theorem pr_turn {w w8 w9 : World} {B g v n c8 c9 N8 : Nat} {A8 A9 : Option Addr} {xs : List Int} {x : Int} {vs : Nat → Value} {F : Nat → List Int} (h : PSt w B g vs F) (hB : B ≤ w.heap.size) (hv : v < 8) (hl : xs.length = n) (hE : maskF (updV F v (xs ++ [x])) = maskF F)
    (h8 : Row w8 w.heap.size 3 1 (.slice A8 n c8) n (xs.map (Value.int .i64))) (hN : Fr Nil w w9) (hs : w.heap.size ≤ N8) (hr : Row w9 w.heap.size 3 1 (.slice A9 (n + 1) c9) (n + 1) (xs.map (Value.int .i64) ++ [.int .i64 x]))
    (ho : (Value.slice A9 (n + 1) c9).ownBlock = (Value.slice A8 n c8).ownBlock ∨ (Value.slice A9 (n + 1) c9).ownBlock = some N8) :
    PGo w B g vs (updV F v (xs ++ [x])) (w9.setCell ⟨g, 1 + v, none⟩ (.slice A9 (n + 1) c9)) := by
  subst hl
  unfold PGo
  rw [hE]
  have e : (xs ++ [x]).length = xs.length + 1 := by simp
  refine ArrGo.put h hv (hN.mono (fun _ _ h => h.elim)) (by rw [e]; simpa using hr.base_le hB) (fun j hj => .inr ?_)
  rcases ho with h1 | h1
  · exact (h8.lt j (h1 ▸ hj)).1
  · rw [h1] at hj; injection hj with hj; omega
set_option maxHeartbeats 1000000 in
set_option maxRecDepth 100000 in
theorem turn_any (g v : Nat) (x : Int) (xs : List Int) (vs : Nat → Value) (F : Nat → List Int) (w : World) (B : Nat) (h : PSt w B g vs F) (hB : B ≤ w.heap.size) (hv : v < 8) (he : F v = x :: xs) (hl : xs.length ≤ 1000) :
    Calls Try.prog 27 #[.pointer (some ⟨g, 0, none⟩), .int .i64 v] w (TurnPost w B g vs (updV F v (xs ++ [x]))) := by
  obtain ⟨i0, hi, hz0, hz1, hz2⟩ := info_parts infoInt9
  have hc0 := h.bits
  have hcv := Arr.cell h hv
  obtain ⟨A, c, hvv, hc1, hc2⟩ := (h.row v hv).shape
  have hrow := h.row v hv
  rw [hvv, he] at hcv
  rw [hvv, he] at hrow
  rw [he] at hvv hc1
  rw [show ([Value.int .u32 (maskF F)].length) = 1 from rfl] at hcv
  simp only [List.length_cons] at hcv hrow hvv hc1
  have hlt := h.blk.lt
  have hfz := h.blk.free
  have d3 : decide ((v : Int) < 0) = false := by simp
  have d4 : decide (8 ≤ (v : Int)) = false := by simp; omega
  have d5 : (((xs.length : Int) + 1) == 0) = false := by simp; omega
  have hv8 : (v : Int) < 8 := by omega
  have hv0 : (0 : Int) ≤ v := by omega
  obtain ⟨g2, o2, e2, hg2, hx0⟩ := (RD.of_row hrow).at_ (i := 0) (by omega)
  subst e2
  rw [Nat.add_zero] at hx0
  have hcut := hrow.drew.cut (k := 1) (by omega)
  have hA1 : ∃ A1, (if c = 1 then some ⟨g2, o2, none⟩ else (some (⟨g2, o2, none⟩ : Addr)).map (·.add (1 * 1))) = A1 ∧ RD w w.heap.size A1 xs.length xs := ⟨_, rfl, by
    have h9 := hcut.reads
    simp only [List.map_cons, Nat.one_mul, List.drop_succ_cons, List.drop_zero, Nat.add_sub_cancel] at h9
    exact h9⟩
  obtain ⟨A1, hA1, hrd⟩ := hA1
  have hcl : ∀ W cc, w.heap.size ≤ W.heap.size → RD W w.heap.size A1 xs.length xs → Calls Try.prog 87 #[.slice A1 xs.length cc] W fun e w' => ∃ v, e = .returned v ∧ CloneR w.heap.size xs.length xs W v w' := fun W cc hW hr => by
    refine (clone_any _ _ _ _ _ _ hr hW (by omega)).mono ?_
    rintro e w' ⟨v, rfl, h1, h2⟩
    obtain ⟨A', c', rfl, _, _⟩ := h1.shape
    exact ⟨_, rfl, A', c', rfl, h1.base_le hW, h2⟩
  have HCL := Lib.hid hcl
  have hE : Hid (maskF (updV F v (xs ++ [x])) = maskF F) := Lib.hid (mask_same (by unfold full; rw [he]; simp))
  have HP := Lib.hid (fun w1 v1 (hb : Fr (fun j => (vs v).ownBlock = some j) w w1) (hr : Row w1 B 3 1 v1 (xs ++ [x]).length ((xs ++ [x]).map (Value.int .i64))) (ho : ∀ j, v1.ownBlock = some j → w.heap.size ≤ j) => ArrGo.put h hv hb hr (fun j hj => .inr (ho j hj)))
  have HAP := Lib.hid (fun w1 (hf : Fr Nil w w1) => Arr.app h hv (hf.mono (fun _ _ h => h.elim)))
  have HV := Lib.hid hvv
  clear hcl hcut hrow he
  generalize hxl : xs.length = xl at *
  have HXL := Lib.hid hxl
  clear hxl
  have q1 : (1 : Int) ≤ (xl : Int) + 1 := by omega
  have q2 : (1 : Int) ≤ c := by omega
  have q3 : xl + 1 ≤ c := by omega
  have q4 : (xl : Int) + 1 ≤ c := by omega
  by_cases hc9 : c = 1
  · simp only [hc9, if_true] at hA1
    subst hA1
    go_enter Try.func27, Try.ntmps27
    go_wp2
    go_region_law (first | (refine step_call_go rfl 87 #[.tmp 27] #[45] rfl #[.slice (some ⟨g2, o2, none⟩) xl 0] (by simp [Act.eval, Act.put]) (run87 #[.slice (some ⟨g2, o2, none⟩) xl 0] w.drew) (CloneR w.heap.size xl xs w.drew) (HCL.out w.drew _ (by simp) hrd) ?_; rintro v8 w8 ⟨A8, c8, rfl, hr8, hb8⟩; have hbw8 : Below w.heap.size w w8 := ((Below.refl _ _).drew).trans hb8; have hl8 := hb8.size; have m1 := (hbw8.cell (p := ⟨g, 1 + v, none⟩) hlt).trans hcv; have m2 := (hbw8.cell (p := ⟨g2, o2, none⟩) hg2).trans hx0) | (refine step_call_go rfl 87 #[.tmp 27] #[45] rfl #[.slice (some ⟨g2, o2, none⟩) xl 0] (by simp [Act.eval, Act.put]) (run87 #[.slice (some ⟨g2, o2, none⟩) xl 0] (w.drew.alloc (.cells #[.int .i64 x] 3))) (CloneR w.heap.size xl xs (w.drew.alloc (.cells #[.int .i64 x] 3))) (HCL.out (w.drew.alloc (.cells #[.int .i64 x] 3)) _ (by simp) (Reads.alloc hrd (Nat.le_refl _) _)) ?_; rintro v8 w8 ⟨A8, c8, rfl, hr8, hb8⟩; have hbw8 : Below w.heap.size w w8 := (((Below.refl w.heap.size w).drew).alloc (by simp) _).trans (hb8.mono (by simp)); have n1 := (hb8.cell (p := ⟨w.heap.size, 0, none⟩) (by simp)).trans ((Blk.new w.drew #[.int .i64 x] 3).cell 0); have hl8 := hb8.size; have m1 := (hbw8.cell (p := ⟨g, 1 + v, none⟩) hlt).trans hcv; have m2 := (hbw8.cell (p := ⟨g2, o2, none⟩) hg2).trans hx0) | (refine step_append_row rfl (.tmp 28) (.tmp 37) 45 rfl w.heap.size 3 i0 (.int .i64 0) 1 8 Try.underlying45 hi hz0 hz1 hz2 rfl (by decide) (.slice A8 xl c8) xl (xs.map (Value.int .i64)) (by simp [Act.eval, Act.put]) (hr8.alloc (.cells #[.int .i64 x] 3)) (w8.heap.size + 1) (some ⟨w8.heap.size, 0, none⟩) 1 1 [.int .i64 x] (by simp [Act.eval, Act.put]) (reads_one w8 (.int .i64 x) 3) (by simp [Value.oneCell']) (by unfold maxLen; omega) (by omega) (by simp; have := hbw8.size; omega) ?_; intro A9 c9 w9 hr9 hg9 ho9; have hf9 : Fr (fun k => (Value.slice A8 xl c8).ownBlock = some k) w8 w9 := ((Fr.refl _ w8).alloc _).grown hg9 (fun k e _ => e); have hs9 : w.heap.size ≤ (w8.alloc (.cells #[.int .i64 x] 3)).heap.size := (by simp; have := hbw8.size; omega); have hN9 := pr_nil9 (B := 0) hbw8 hr8 hf9; obtain ⟨ka, kb, kc, kd⟩ := HAP.out w9 hN9; have kb1 := kb (1 + v); have ka1 : w9.cell? ⟨g, 1 + v, none⟩ = some (vs v) := ka; rw [HV.out] at ka1; clear kd ka) | (refine step_append_row rfl (.tmp 28) (.tmp 37) 45 rfl w.heap.size 3 i0 (.int .i64 0) 1 8 Try.underlying45 hi hz0 hz1 hz2 rfl (by decide) (.slice A8 xl c8) xl (xs.map (Value.int .i64)) (by simp [Act.eval, Act.put]) hr8 w8.heap.size (some ⟨w.heap.size, 0, none⟩) 1 1 [.int .i64 x] (by simp [Act.eval, Act.put]) (reads_cell n1) (by simp [Value.oneCell']) (by unfold maxLen; omega) (by omega) hbw8.size ?_; intro A9 c9 w9 hr9 hg9 ho9; have hf9 : Fr (fun k => (Value.slice A8 xl c8).ownBlock = some k) w8 w9 := (Fr.refl _ w8).grown hg9 (fun k e _ => e); have hs9 : w.heap.size ≤ w8.heap.size := hbw8.size; have hN9 := pr_nil9 (B := 0) hbw8 hr8 hf9; obtain ⟨ka, kb, kc, kd⟩ := HAP.out w9 hN9; have kb1 := kb (1 + v); have ka1 : w9.cell? ⟨g, 1 + v, none⟩ = some (vs v) := ka; rw [HV.out] at ka1; clear kd ka))
    all_goals
      go_wp2
      go_ret
      exact ⟨rfl, pr_turn h hB hv HXL.out hE.out hr8 hN9 hs9 hr9 ho9⟩
  · simp only [hc9, if_false, Option.map_some, add_plain, Nat.mul_one] at hA1
    subst hA1
    go_enter Try.func27, Try.ntmps27
    go_wp2
    go_region_law (first | (refine step_call_go rfl 87 #[.tmp 27] #[45] rfl #[.slice (some ⟨g2, o2 + 1, none⟩) xl (c - 1)] (by simp [Act.eval, Act.put]) (run87 #[.slice (some ⟨g2, o2 + 1, none⟩) xl (c - 1)] w.drew) (CloneR w.heap.size xl xs w.drew) (HCL.out w.drew _ (by simp) hrd) ?_; rintro v8 w8 ⟨A8, c8, rfl, hr8, hb8⟩; have hbw8 : Below w.heap.size w w8 := ((Below.refl _ _).drew).trans hb8; have hl8 := hb8.size; have m1 := (hbw8.cell (p := ⟨g, 1 + v, none⟩) hlt).trans hcv; have m2 := (hbw8.cell (p := ⟨g2, o2, none⟩) hg2).trans hx0) | (refine step_call_go rfl 87 #[.tmp 27] #[45] rfl #[.slice (some ⟨g2, o2 + 1, none⟩) xl (c - 1)] (by simp [Act.eval, Act.put]) (run87 #[.slice (some ⟨g2, o2 + 1, none⟩) xl (c - 1)] (w.drew.alloc (.cells #[.int .i64 x] 3))) (CloneR w.heap.size xl xs (w.drew.alloc (.cells #[.int .i64 x] 3))) (HCL.out (w.drew.alloc (.cells #[.int .i64 x] 3)) _ (by simp) (Reads.alloc hrd (Nat.le_refl _) _)) ?_; rintro v8 w8 ⟨A8, c8, rfl, hr8, hb8⟩; have hbw8 : Below w.heap.size w w8 := (((Below.refl w.heap.size w).drew).alloc (by simp) _).trans (hb8.mono (by simp)); have n1 := (hb8.cell (p := ⟨w.heap.size, 0, none⟩) (by simp)).trans ((Blk.new w.drew #[.int .i64 x] 3).cell 0); have hl8 := hb8.size; have m1 := (hbw8.cell (p := ⟨g, 1 + v, none⟩) hlt).trans hcv; have m2 := (hbw8.cell (p := ⟨g2, o2, none⟩) hg2).trans hx0) | (refine step_append_row rfl (.tmp 28) (.tmp 37) 45 rfl w.heap.size 3 i0 (.int .i64 0) 1 8 Try.underlying45 hi hz0 hz1 hz2 rfl (by decide) (.slice A8 xl c8) xl (xs.map (Value.int .i64)) (by simp [Act.eval, Act.put]) (hr8.alloc (.cells #[.int .i64 x] 3)) (w8.heap.size + 1) (some ⟨w8.heap.size, 0, none⟩) 1 1 [.int .i64 x] (by simp [Act.eval, Act.put]) (reads_one w8 (.int .i64 x) 3) (by simp [Value.oneCell']) (by unfold maxLen; omega) (by omega) (by simp; have := hbw8.size; omega) ?_; intro A9 c9 w9 hr9 hg9 ho9; have hf9 : Fr (fun k => (Value.slice A8 xl c8).ownBlock = some k) w8 w9 := ((Fr.refl _ w8).alloc _).grown hg9 (fun k e _ => e); have hs9 : w.heap.size ≤ (w8.alloc (.cells #[.int .i64 x] 3)).heap.size := (by simp; have := hbw8.size; omega); have hN9 := pr_nil9 (B := 0) hbw8 hr8 hf9; obtain ⟨ka, kb, kc, kd⟩ := HAP.out w9 hN9; have kb1 := kb (1 + v); have ka1 : w9.cell? ⟨g, 1 + v, none⟩ = some (vs v) := ka; rw [HV.out] at ka1; clear kd ka) | (refine step_append_row rfl (.tmp 28) (.tmp 37) 45 rfl w.heap.size 3 i0 (.int .i64 0) 1 8 Try.underlying45 hi hz0 hz1 hz2 rfl (by decide) (.slice A8 xl c8) xl (xs.map (Value.int .i64)) (by simp [Act.eval, Act.put]) hr8 w8.heap.size (some ⟨w.heap.size, 0, none⟩) 1 1 [.int .i64 x] (by simp [Act.eval, Act.put]) (reads_cell n1) (by simp [Value.oneCell']) (by unfold maxLen; omega) (by omega) hbw8.size ?_; intro A9 c9 w9 hr9 hg9 ho9; have hf9 : Fr (fun k => (Value.slice A8 xl c8).ownBlock = some k) w8 w9 := (Fr.refl _ w8).grown hg9 (fun k e _ => e); have hs9 : w.heap.size ≤ w8.heap.size := hbw8.size; have hN9 := pr_nil9 (B := 0) hbw8 hr8 hf9; obtain ⟨ka, kb, kc, kd⟩ := HAP.out w9 hN9; have kb1 := kb (1 + v); have ka1 : w9.cell? ⟨g, 1 + v, none⟩ = some (vs v) := ka; rw [HV.out] at ka1; clear kd ka))
    all_goals
      go_wp2
      go_ret
      exact ⟨rfl, pr_turn h hB hv HXL.out hE.out hr8 hN9 hs9 hr9 ho9⟩
end Go.Proofs.Ytenhcpobncmedaa
