/- The law ringlaw4.LoadByte; images as arguments. -/
import Derived.Test.YtgmpcdonmlhohaaLbE
import Derived.Test.YtgmpcdonmlhohaaRecs
namespace Go.Proofs.Ytgmpcdonmlhohaa
open Go.ChangeShapes Go.WideShapes Go.ChangeAt Go.RowKit Go.Joins Go.Deep
set_option maxHeartbeats 400000
set_option linter.unusedVariables false
set_option linter.unusedSimpArgs false
set_option maxHeartbeats 4000000 in
set_option maxRecDepth 100000 in
theorem law_loadByte (e : Int) (A : Option Addr) (n c : Nat) (gs : List Pg) (a : Int) (w : World) (h : RP w w.heap.size A n gs) (he : 0 ≤ e ∧ e < 4294967296) (ha : 0 ≤ a ∧ a < 4294967296) (hn : n ≤ 9223372036854775807) :
    Calls Try.prog 3 #[.agg #[.int .u32 e, .slice A n c], .int .u32 a] w fun e w' => e = .returned (.bool true) ∧ Below w.heap.size w w' := by
  have hB0 : Below w.heap.size w (w.alloc (.cells #[.int .u32 e, .slice A n c] 25)) := (Below.refl _ _).alloc (Nat.le_refl _) _
  go_enter Try.func3, Try.ntmps3
  go_wp2_with fail
  refine (byte_any e A n c gs a _ w.heap.size (h.below' hB0 (Nat.le_refl _)) (by simp) he ha hn).mono ?_
  rintro e1 w1 ⟨x1, r1, z1, rfl, hi1, hb1⟩
  have hb1' : Below (w.heap.size + 1) (w.alloc (.cells #[.int .u32 e, .slice A n c] 25)) w1 := by simpa using hb1
  obtain ⟨k0, k1, kl⟩ := box2 hb1'
  have hbw1 : Below w.heap.size w w1 := hB0.trans (hb1.mono (by simp))
  go_wp2_with fail
  refine (loadByte_any e A n c gs a _ w.heap.size (h.below' hbw1 (Nat.le_refl _)) (by omega) he ha hn).mono ?_
  rintro e2 w2 ⟨x2, r2, z2, rfl, hi2, hb2⟩
  obtain ⟨rfl, rfl, rfl⟩ := hi1.unique hi2
  have hbw2 : Below w.heap.size w w2 := hbw1.trans (hb2.mono hbw1.size)
  clear hi1 hi2
  go_wp2
  go_ret
  exact ⟨by simp, hbw2⟩
section
variable {H : Type} {enc : TypeId × Value → H} {P : Program} {w : World} {base : Nat} {held : Bool}
theorem pg_cells {e : TypeId} {f0 f1 f2 : Field} {eb : TypeId} {fuel : Nat} {cs : List Value} {x : DataW H × List MemPlace} (he : P.underlying e = some (.struct #[f0, f1, f2]))
    (hone : oneCellFields P #[f0, f1, f2] = true) (h0 : P.underlying f0.type = some (.int .i64)) (h1 : P.underlying f1.type = some (.int .i64)) (h2 : P.underlying f2.type = some (.slice eb)) (h3 : P.underlying eb = some (.int .u8)) (hC : P.cellsOf eb = 1)
    (h : DataW.trod enc P w base (fun _ => true) held fuel e cs = some x) (hl : cs.length = 3) : ∃ r : Pg, cs = r.cells ∧ r.fine w w.heap.size := by
  obtain ⟨n, hf⟩ := struct_fields he hone h
  match cs, hl with
  | [v0, v1, v2], _ =>
    obtain ⟨y0, hy0⟩ := hf 0 f0 v0 rfl rfl
    obtain ⟨y1, hy1⟩ := hf 1 f1 v1 rfl rfl
    obtain ⟨y2, hy2⟩ := hf 2 f2 v2 rfl rfl
    obtain ⟨x0, rfl, r0⟩ := one_int h0 hy0
    obtain ⟨x1, rfl, r1⟩ := one_int h1 hy1
    obtain ⟨A, m, c, xs, rfl, hr, hmc, hc, _⟩ := open_ri h2 h3 hC hy2
    exact ⟨⟨x0, x1, A, m, c, xs⟩, rfl, hr.rb, i64_range r0, i64_range r1, by unfold maxLen at hc; dsimp only; omega⟩
end
end Go.Proofs.Ytgmpcdonmlhohaa
