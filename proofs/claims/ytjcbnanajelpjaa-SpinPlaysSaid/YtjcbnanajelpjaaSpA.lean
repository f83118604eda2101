/- Locks by tickets (spin.Lock): what is held of one, and contracts of its methods. -/
import Derived.Test.YtjcbnanajelpjaaSlA
import Derived.Deep.RegionLaw
import Derived.BigGuardPart
namespace Go.Proofs.Ytjcbnanajelpjaa
open Go.RowKit
set_option maxHeartbeats 400000
set_option linter.unusedVariables false
set_option linter.unusedSimpArgs false
def U16 (x : Int) : Prop := 0 ≤ x ∧ x < 65536
def lkCells (nx cl : Int) (hs : List Bool) (tk : List Int) : Array Value := (.int .u16 nx :: .int .u16 cl :: (hs.map Value.bool ++ tk.map (Value.int .u16))).toArray
/-- A lock at block g. -/
structure LockSt (w : World) (B g : Nat) (nx cl : Int) (hs : List Bool) (tk : List Int) : Prop where
  blk : Blk w g (lkCells nx cl hs tk) 126
  low : B ≤ g
  hl : hs.length = 4
  tl : tk.length = 4
  nx : U16 nx
  cl : U16 cl
theorem four {α : Type} {l : List α} (h : l.length = 4) : ∃ a b c d, l = [a, b, c, d] := by
  match l, h with
  | [a, b, c, d], _ => exact ⟨a, b, c, d, rfl⟩
theorem lk_has {nx cl : Int} {hs : List Bool} {tk : List Int} (h1 : hs.length = 4) {i : Nat} (hi : i < 4) : (lkCells nx cl hs tk)[2 + i]? = some (.bool (hs.getD i false)) := by
  obtain ⟨a, b, c, d, rfl⟩ := four h1
  rcases (by omega : i = 0 ∨ i = 1 ∨ i = 2 ∨ i = 3) with rfl | rfl | rfl | rfl <;> rfl
theorem lk_tk {nx cl : Int} {hs : List Bool} {tk : List Int} (h1 : hs.length = 4) (h2 : tk.length = 4) {i : Nat} (hi : i < 4) : (lkCells nx cl hs tk)[6 + i]? = some (.int .u16 (tk.getD i 0)) := by
  obtain ⟨a, b, c, d, rfl⟩ := four h1
  obtain ⟨a', b', c', d', rfl⟩ := four h2
  rcases (by omega : i = 0 ∨ i = 1 ∨ i = 2 ∨ i = 3) with rfl | rfl | rfl | rfl <;> rfl
theorem lk_set_has {nx cl : Int} {hs : List Bool} {tk : List Int} (h1 : hs.length = 4) {i : Nat} (hi : i < 4) (b : Bool) : (lkCells nx cl hs tk).setIfInBounds (2 + i) (.bool b) = lkCells nx cl (hs.set i b) tk := by
  obtain ⟨a, b', c, d, rfl⟩ := four h1
  rcases (by omega : i = 0 ∨ i = 1 ∨ i = 2 ∨ i = 3) with rfl | rfl | rfl | rfl <;> rfl
theorem lk_set_tk {nx cl : Int} {hs : List Bool} {tk : List Int} (h1 : hs.length = 4) (h2 : tk.length = 4) {i : Nat} (hi : i < 4) (x : Int) : (lkCells nx cl hs tk).setIfInBounds (6 + i) (.int .u16 x) = lkCells nx cl hs (tk.set i x) := by
  obtain ⟨a, b, c, d, rfl⟩ := four h1
  obtain ⟨a', b', c', d', rfl⟩ := four h2
  rcases (by omega : i = 0 ∨ i = 1 ∨ i = 2 ∨ i = 3) with rfl | rfl | rfl | rfl <;> rfl
theorem lk_set_nx {nx cl : Int} {hs : List Bool} {tk : List Int} (x : Int) : (lkCells nx cl hs tk).setIfInBounds 0 (.int .u16 x) = lkCells x cl hs tk := by simp [lkCells]
theorem lk_set_cl {nx cl : Int} {hs : List Bool} {tk : List Int} (x : Int) : (lkCells nx cl hs tk).setIfInBounds 1 (.int .u16 x) = lkCells nx x hs tk := by simp [lkCells]
section
variable {w : World} {B g : Nat} {nx cl : Int} {hs : List Bool} {tk : List Int}
theorem LockSt.c0 (h : LockSt w B g nx cl hs tk) : w.cell? ⟨g, 0, none⟩ = some (.int .u16 nx) := by rw [h.blk.cell]; simp [lkCells]
theorem LockSt.c1 (h : LockSt w B g nx cl hs tk) : w.cell? ⟨g, 1, none⟩ = some (.int .u16 cl) := by rw [h.blk.cell]; simp [lkCells]
theorem LockSt.ch (h : LockSt w B g nx cl hs tk) {i : Nat} (hi : i < 4) : w.cell? ⟨g, 2 + i, none⟩ = some (.bool (hs.getD i false)) := by rw [h.blk.cell]; exact lk_has h.hl hi
theorem LockSt.ct (h : LockSt w B g nx cl hs tk) {i : Nat} (hi : i < 4) : w.cell? ⟨g, 6 + i, none⟩ = some (.int .u16 (tk.getD i 0)) := by rw [h.blk.cell]; exact lk_tk h.hl h.tl hi
theorem LockSt.keep {w' : World} {S : Nat → Prop} (h : LockSt w B g nx cl hs tk) (hf : Fr S w w') (hn : ¬ S g) : LockSt w' B g nx cl hs tk := ⟨h.blk.fr hf hn, h.low, h.hl, h.tl, h.nx, h.cl⟩
end
theorem newLock_any (x : Int) (w : World) : Calls Try.prog 50 #[.int .u16 x] w fun e w' => e = .returned (.pointer (some ⟨w.heap.size, 0, none⟩)) ∧ w' = w.alloc (.cells (lkCells x x [false, false, false, false] [0, 0, 0, 0]) 126) := by
  go_enter Try.func50, Try.ntmps50
  go_wp2
  go_ret
  exact ⟨rfl, rfl⟩
theorem cpu_any (x : Int) (w : World) : Calls Try.prog 73 #[.int .i64 x] w fun e w' => e = .returned (.bool (decide (0 ≤ x ∧ x < 4))) ∧ w = w' := by
  by_cases h : 0 ≤ x
  · have d : decide (0 ≤ x) = true := by simpa using h
    go_enter Try.func73, Try.ntmps73
    go_wp2
    go_ret
    exact ⟨sl_bool (by simp [h]), rfl⟩
  · have d : decide (0 ≤ x) = false := by simpa using h
    go_enter Try.func73, Try.ntmps73
    go_wp2
    go_ret
    exact ⟨sl_bool (by simp [h]), rfl⟩
theorem cpu_is {b : Bool} (x : Int) (w : World) (h : decide (0 ≤ x ∧ x < 4) = b) : Calls Try.prog 73 #[.int .i64 x] w fun e w' => e = .returned (.bool b) ∧ w = w' := h ▸ cpu_any x w
def lkTwo (v : Value) (b : Int) (w : World) (e : Ending) (w' : World) : Prop := e = .returned (.tuple #[v, .int .i64 b]) ∧ w = w'
theorem take_bad (g : Nat) (x : Int) (w : World) (h : x < 0 ∨ 4 ≤ x) : Calls Try.prog 52 #[.pointer (some ⟨g, 0, none⟩), .int .i64 x] w (lkTwo (.int .u16 0) 1 w) := by
  go_enter Try.func52, Try.ntmps52
  go_wp2_with fail
  refine (cpu_is x _ (b := false) (by simp; omega)).mono ?_
  rintro e w' ⟨rfl, rfl⟩
  go_wp2
  go_ret2
  exact ⟨rfl, rfl⟩
set_option maxRecDepth 100000 in
theorem take_has (g : Nat) (i : Nat) (hi : i < 4) (w : World) {B : Nat} {nx cl : Int} {hs : List Bool} {tk : List Int} (h : LockSt w B g nx cl hs tk) (hb : hs.getD i false = true) : Calls Try.prog 52 #[.pointer (some ⟨g, 0, none⟩), .int .i64 i] w (lkTwo (.int .u16 0) 5 w) := by
  have hc := h.ch hi
  rw [hb] at hc
  have hi' : (i : Int) < 4 := by omega
  go_enter Try.func52, Try.ntmps52
  go_wp2_with fail
  refine (cpu_is (i : Int) _ (b := true) (by simp; omega)).mono ?_
  rintro e w' ⟨rfl, rfl⟩
  go_wp2
  go_ret2
  exact ⟨rfl, rfl⟩
theorem lk_taken {w : World} {B g i : Nat} {nx cl : Int} {hs : List Bool} {tk : List Int} (h : LockSt w B g nx cl hs tk) (hi : i < 4) (y : Int) (hy : U16 y) :
    LockSt (((w.setCell ⟨g, 2 + i, none⟩ (.bool true)).setCell ⟨g, 6 + i, none⟩ (.int .u16 nx)).setCell ⟨g, 0, none⟩ (.int .u16 y)) B g y cl (hs.set i true) (tk.set i nx) ∧ Fr (fun k => k = g) w (((w.setCell ⟨g, 2 + i, none⟩ (.bool true)).setCell ⟨g, 6 + i, none⟩ (.int .u16 nx)).setCell ⟨g, 0, none⟩ (.int .u16 y)) := by
  refine ⟨⟨?_, h.low, by simp [h.hl], by simp [h.tl], hy, h.cl⟩, (((Fr.refl (fun k => k = g) w).setCell (p := ⟨g, 2 + i, none⟩) (fun _ => rfl) _).setCell (p := ⟨g, 6 + i, none⟩) (fun _ => rfl) _).setCell (p := ⟨g, 0, none⟩) (fun _ => rfl) _⟩
  have := ((h.blk.set (2 + i) (.bool true)).set (6 + i) (.int .u16 nx)).set 0 (.int .u16 y)
  rwa [lk_set_has h.hl hi, lk_set_tk (by simp [h.hl]) h.tl hi, lk_set_nx] at this
theorem lk_freed {w : World} {B g i : Nat} {nx cl : Int} {hs : List Bool} {tk : List Int} (h : LockSt w B g nx cl hs tk) (hi : i < 4) (y : Int) (hy : U16 y) :
    LockSt ((w.setCell ⟨g, 2 + i, none⟩ (.bool false)).setCell ⟨g, 1, none⟩ (.int .u16 y)) B g nx y (hs.set i false) tk ∧ Fr (fun k => k = g) w ((w.setCell ⟨g, 2 + i, none⟩ (.bool false)).setCell ⟨g, 1, none⟩ (.int .u16 y)) := by
  refine ⟨⟨?_, h.low, by simp [h.hl], h.tl, h.nx, hy⟩, ((Fr.refl (fun k => k = g) w).setCell (p := ⟨g, 2 + i, none⟩) (fun _ => rfl) _).setCell (p := ⟨g, 1, none⟩) (fun _ => rfl) _⟩
  have := (h.blk.set (2 + i) (.bool false)).set 1 (.int .u16 y)
  rwa [lk_set_has h.hl hi, lk_set_cl] at this
def TakeGo (w : World) (B g i : Nat) (nx cl : Int) (hs : List Bool) (tk : List Int) (e : Ending) (w' : World) : Prop :=
  e = .returned (.tuple #[.int .u16 nx, .int .i64 0]) ∧ LockSt w' B g ((nx + 1) % 65536) cl (hs.set i true) (tk.set i nx) ∧ Fr (fun k => k = g) w w'
set_option maxRecDepth 100000 in
theorem take_new (g : Nat) (i : Nat) (hi : i < 4) (w : World) {B : Nat} {nx cl : Int} {hs : List Bool} {tk : List Int} (h : LockSt w B g nx cl hs tk) (hb : hs.getD i false = false) : Calls Try.prog 52 #[.pointer (some ⟨g, 0, none⟩), .int .i64 i] w (TakeGo w B g i nx cl hs tk) := by
  have hc := h.ch hi
  rw [hb] at hc
  have hc0 := h.c0
  have hct := h.ct hi
  have hfr := h.blk.free
  have hlt := h.blk.lt
  have hi' : (i : Int) < 4 := by omega
  have hw : IntKind.u16.wrap (nx + 1) = (nx + 1) % 65536 := by rw [IntKind.wrap_u16]
  go_enter Try.func52, Try.ntmps52
  go_wp2_with fail
  refine (cpu_is (i : Int) _ (b := true) (by simp; omega)).mono ?_
  rintro e w' ⟨rfl, rfl⟩
  go_wp2
  go_region
  go_wp2
  go_ret2
  have H := lk_taken h hi ((nx + 1) % 65536) ⟨by omega, by omega⟩
  exact ⟨rfl, ⟨H.1.blk, H.1.low, H.1.hl, H.1.tl, H.1.nx, H.1.cl⟩, ⟨H.2.os, H.2.tape, H.2.output, H.2.size, H.2.block⟩⟩
theorem mine_bad (g : Nat) (x : Int) (w : World) (h : x < 0 ∨ 4 ≤ x) : Calls Try.prog 53 #[.pointer (some ⟨g, 0, none⟩), .int .i64 x] w (lkTwo (.bool false) 1 w) := by
  go_enter Try.func53, Try.ntmps53
  go_wp2_with fail
  refine (cpu_is x _ (b := false) (by simp; omega)).mono ?_
  rintro e w' ⟨rfl, rfl⟩
  go_wp2
  go_ret2
  exact ⟨rfl, rfl⟩
def MinePost (b : Bool) (w : World) (e : Ending) (w' : World) : Prop := e = .returned (.tuple #[.bool b, .int .i64 0]) ∧ ∃ n, w' = w.drewN n
set_option maxRecDepth 100000 in
theorem mine_any (g : Nat) (i : Nat) (hi : i < 4) (w : World) {B : Nat} {nx cl : Int} {hs : List Bool} {tk : List Int} (h : LockSt w B g nx cl hs tk) : Calls Try.prog 53 #[.pointer (some ⟨g, 0, none⟩), .int .i64 i] w (MinePost (hs.getD i false && (tk.getD i 0 == cl)) w) := by
  have hc := h.ch hi
  have hc1 := h.c1
  have hct := h.ct hi
  generalize hs.getD i false = hb at *
  generalize tk.getD i 0 = t at *
  have hi' : (i : Int) < 4 := by omega
  have hi0 : (0 : Int) ≤ i := by omega
  cases hb with
  | true =>
    go_enter Try.func53, Try.ntmps53
    go_wp2_with fail
    refine (cpu_is (i : Int) _ (b := true) (by simp; omega)).mono ?_
    rintro e w' ⟨rfl, rfl⟩
    go_wp2
    go_quiet (fail)
    go_wp2
    go_ret2
    exact ⟨by simp, nq, rfl⟩
  | false =>
    go_enter Try.func53, Try.ntmps53
    go_wp2_with fail
    refine (cpu_is (i : Int) _ (b := true) (by simp; omega)).mono ?_
    rintro e w' ⟨rfl, rfl⟩
    go_wp2
    go_quiet (fail)
    go_wp2
    go_ret2
    exact ⟨by simp, nq, rfl⟩
theorem mine_is {b : Bool} (g : Nat) (i : Nat) (hi : i < 4) (w : World) {B : Nat} {nx cl : Int} {hs : List Bool} {tk : List Int} (h : LockSt w B g nx cl hs tk) (hb : (hs.getD i false && (tk.getD i 0 == cl)) = b) : Calls Try.prog 53 #[.pointer (some ⟨g, 0, none⟩), .int .i64 i] w (MinePost b w) := hb ▸ mine_any g i hi w h
def lkRet (k : Int) (w : World) (e : Ending) (w' : World) : Prop := e = .returned (.int .i64 k) ∧ ∃ n, w' = w.drewN n
set_option maxRecDepth 100000 in
theorem free_bad (g : Nat) (x : Int) (w : World) (h : x < 0 ∨ 4 ≤ x) : Calls Try.prog 51 #[.pointer (some ⟨g, 0, none⟩), .int .i64 x] w (lkRet 1 w) := by
  go_enter Try.func51, Try.ntmps51
  go_wp2_with fail
  refine (mine_bad g x _ h).mono ?_
  rintro e w' ⟨rfl, rfl⟩
  go_wp2
  go_ret
  exact ⟨rfl, 0, rfl⟩
set_option maxRecDepth 100000 in
theorem free_not (g : Nat) (i : Nat) (hi : i < 4) (w : World) {B : Nat} {nx cl : Int} {hs : List Bool} {tk : List Int} (h : LockSt w B g nx cl hs tk) (hb : (hs.getD i false && (tk.getD i 0 == cl)) = false) : Calls Try.prog 51 #[.pointer (some ⟨g, 0, none⟩), .int .i64 i] w (lkRet 8 w) := by
  have HB := Lib.hid hb
  clear hb
  go_enter Try.func51, Try.ntmps51
  go_wp2_with fail
  refine (mine_is g i hi _ h HB.out).mono ?_
  rintro e w' ⟨rfl, nq, rfl⟩
  go_wp2
  go_ret
  exact ⟨rfl, nq, rfl⟩
def FreeGo (w : World) (B g i : Nat) (nx cl : Int) (hs : List Bool) (tk : List Int) (e : Ending) (w' : World) : Prop :=
  e = .returned (.int .i64 0) ∧ LockSt w' B g nx ((cl + 1) % 65536) (hs.set i false) tk ∧ Fr (fun k => k = g) w w'
set_option maxRecDepth 100000 in
theorem free_mine (g : Nat) (i : Nat) (hi : i < 4) (w : World) {B : Nat} {nx cl : Int} {hs : List Bool} {tk : List Int} (h : LockSt w B g nx cl hs tk) (hb : (hs.getD i false && (tk.getD i 0 == cl)) = true) : Calls Try.prog 51 #[.pointer (some ⟨g, 0, none⟩), .int .i64 i] w (FreeGo w B g i nx cl hs tk) := by
  have HB := Lib.hid hb
  clear hb
  have hi' : (i : Int) < 4 := by omega
  have hw : IntKind.u16.wrap (cl + 1) = (cl + 1) % 65536 := by rw [IntKind.wrap_u16]
  have hc := h.ch hi
  have hc1 := h.c1
  have hfr := h.blk.free
  have hlt := h.blk.lt
  go_enter Try.func51, Try.ntmps51
  go_wp2_with fail
  refine (mine_is g i hi _ h HB.out).mono ?_
  rintro e w' ⟨rfl, nq, rfl⟩
  go_wp2
  go_ret
  have H := lk_freed h hi ((cl + 1) % 65536) ⟨by omega, by omega⟩
  exact ⟨rfl, ⟨H.1.blk, H.1.low, H.1.hl, H.1.tl, H.1.nx, H.1.cl⟩, ⟨H.2.os, H.2.tape, H.2.output, H.2.size, H.2.block⟩⟩
end Go.Proofs.Ytjcbnanajelpjaa
