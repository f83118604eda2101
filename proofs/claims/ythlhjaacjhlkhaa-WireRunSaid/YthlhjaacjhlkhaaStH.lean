/- One end of a stream: contract of answer (what the other end has). -/
import Derived.Test.YthlhjaacjhlkhaaStG
namespace Go.Proofs.Ythlhjaacjhlkhaa
open Go.RowKit
set_option maxHeartbeats 400000
set_option linter.unusedVariables false
set_option linter.unusedSimpArgs false
/-- Under way in a call that was handed a segment: it lies in the call's first new block; where the object stands. -/
structure Pos (w : World) (B g : Nat) (vo vi : Value) (sb : Array Value) (W : World) (x : EC) (vo' vi' : Value) (xs ys : List Int) : Prop where
  o : Ob2 W B g 128 (ecells x) vo' vi' xs ys
  a : At2 w g vo vi W vo' vi'
  k : ∀ j, W.cell? ⟨w.heap.size, j, none⟩ = sb[j]?
  s : w.heap.size < W.heap.size
  ng : ¬ w.heap.size = g
namespace Pos
variable {w W W' : World} {B g : Nat} {vo vi vo' vi' : Value} {sb : Array Value} {x x' : EC} {xs ys : List Int}
theorem start (h : ESt w B g x vo vi xs ys) (sb : Array Value) : Pos w B g vo vi sb (w.alloc (.cells sb 25)) x vo vi xs ys :=
  have hb : Below w.heap.size w (w.alloc (.cells sb 25)) := (Below.refl _ _).alloc (Nat.le_refl _) _
  ⟨Ob2.grow h hb, At2.grow hb, (Blk.new w sb 25).cell, by simp, by have := (Ob2.blk h).lt; omega⟩
theorem grow (h : Pos w B g vo vi sb W x vo' vi' xs ys) (hb : Below W.heap.size W W') : Pos w B g vo vi sb W' x vo' vi' xs ys :=
  ⟨Ob2.grow h.o hb, h.a.more hb, fun j => (hb.cell (p := ⟨w.heap.size, j, none⟩) h.s).trans (h.k j), Nat.lt_of_lt_of_le h.s hb.size, h.ng⟩
theorem set1 (h : Pos w B g vo vi sb W x vo' vi' xs ys) (j : Nat) (u : Value) (ha : (ecells x vo' vi').setIfInBounds j u = ecells x' vo' vi') : Pos w B g vo vi sb (W.setCell ⟨g, j, none⟩ u) x' vo' vi' xs ys :=
  have h1 := h.o.set1 (cs' := ecells x') j u ha
  ⟨h1.1, h.a.trans h1.2, fun i => (World.cell?_of_block (Below.heap_setCell W _ _ w.heap.size h.ng)).trans (h.k i), by simpa using h.s, h.ng⟩
theorem go (h : Pos w B g vo vi sb W x vo' vi' xs ys) : EGo w B g vo vi x xs ys W := h.a.go h.o
theorem drew (h : Pos w B g vo vi sb W x vo' vi' xs ys) : Pos w B g vo vi sb W.drew x vo' vi' xs ys := h.grow ((Below.refl _ _).drew)
theorem drewN (h : Pos w B g vo vi sb W x vo' vi' xs ys) (m : Nat) : Pos w B g vo vi sb (W.drewN m) x vo' vi' xs ys := h.grow (st_drewN (Below.refl _ _) m)
/-- The row of what is to be said is another one, made anew. -/
theorem newO (h : Pos w B g vo vi sb W x vo' vi' xs ys) {w1 : World} {A8 : Option Addr} {n8 c8 : Nat} {xs' : List Int} (hB : B ≤ w.heap.size) (hb : Below W.heap.size W w1) (hr : Row w1 W.heap.size 5 1 (.slice A8 n8 c8) n8 (xs'.map (Value.int .u8))) (hx : Byt xs') :
    Pos w B g vo vi sb (w1.setCell ⟨g, 6, none⟩ (.slice A8 n8 c8)) x (.slice A8 n8 c8) vi' xs' ys := by
  have hn : n8 = xs'.length := by have := hr.1; simp at this; omega
  subst hn
  have hbl : B ≤ W.heap.size := Nat.le_trans hB (Nat.le_of_lt h.s)
  have h1 := h.o.setO1 (cs' := ecells x) ((Fr.of_grow hb).mono (fun _ _ h => h.elim)) (hr.base_le hbl) hx (fun k hk => .inr (hr.lt k hk).1) ((Fr.refl (fun k => k = g) w1).setCell (p := ⟨g, 6, none⟩) (fun _ => rfl) (.slice A8 xs'.length c8)) ((Ob2.grow h.o hb).blk.set 6 (.slice A8 xs'.length c8)) (by simp [ecells])
  exact ⟨h1.1, h.a.trans h1.2, fun i => (World.cell?_of_block (Below.heap_setCell w1 _ _ w.heap.size h.ng)).trans ((hb.cell (p := ⟨w.heap.size, i, none⟩) h.s).trans (h.k i)), by have := hb.size; have := h.s; simp; omega, h.ng⟩
end Pos
def anBad (x : EC) (ak f : Int) : Prop := f / 2 % 2 = 0 ∨ befB x.top ak = true ∨ befB ak x.una = true
instance (x : EC) (ak f : Int) : Decidable (anBad x ak f) := by unfold anBad; infer_instance
def anN (x : EC) (ak : Int) : Int := (ak - x.una) % 4294967296
def anD (x : EC) (ak : Int) (l : Nat) : Nat := min (anN x ak).toNat l
def anX (x : EC) (l : Nat) (ak f wi : Int) : EC :=
  if anBad x ak f then x else if anN x ak = 0 then { x with tries := 0, peer := wi }
  else { x with tries := 0, peer := wi, first := (x.first + anD x ak l) % 4294967296, una := ak, wait := 0, nxt := if befB x.nxt ak = true then ak else x.nxt }
def anXs (x : EC) (xs : List Int) (ak f : Int) : List Int := if anBad x ak f then xs else if anN x ak = 0 then xs else xs.drop (anD x ak xs.length)
section
variable {w : World} {B g : Nat} {x : EC} {vo vi : Value} {xs ys : List Int}
set_option maxHeartbeats 4000000 in
set_option maxRecDepth 100000 in
theorem answer_bad (h : ESt w B g x vo vi xs ys) (hB : B ≤ w.heap.size) (hl : xs.length ≤ 64) (q ak f wi : Int) (A : Option Addr) (n c : Nat) (hf0 : 0 ≤ f) (hf1 : f ≤ 15) (hbad : anBad x ak f) :
    Calls Try.prog 98 #[.pointer (some ⟨g, 0, none⟩), .agg #[.int .u32 q, .int .u32 ak, .int .i64 f, .int .i64 wi, .slice A n c]] w (ERetV w B g vo vi (anX x xs.length ak f wi) (anXs x xs ak f) ys) := by
  obtain ⟨b1, b2, b4, b8⟩ := flag_bits hf0 hf1
  have HP := Lib.hid (Pos.start h (sgb q ak f wi A n c))
  obtain ⟨A0, c0, A', c', rfl, rfl, h1, h2, h3, h4⟩ := h.look
  have hng := HP.out.ng
  have HBI := Lib.hid (Ob2.bo h)
  clear h
  by_cases g1 : f / 2 % 2 = 0
  · have e1 : anX x xs.length ak f wi = x := if_pos (.inl g1)
    have e2 : anXs x xs ak f = xs := if_pos (.inl g1)
    rw [e1, e2]
    have t1 : (f / 2 % 2 * 2 == 0) = true := by simp [g1]
    clear e1 e2 g1
    go_enter Try.func98, Try.ntmps98
    go_wp2_with fail
    obtain ⟨W1, hW1⟩ : ∃ W1, W1 = w.alloc (.cells (sgb q ak f wi A n c) 25) := ⟨_, rfl⟩
    have hP1 := HP.out
    rw [← hW1] at hP1
    rw [show w.alloc (.cells #[.int .u32 q, .int .u32 ak, .int .i64 f, .int .i64 wi, .slice A n c] 25) = W1 from hW1.symm]
    have hc := hP1.o.blk.cell
    have hk := hP1.k
    have hlt := hP1.o.blk.lt
    have hs1 := hP1.s
    have HP1 := Lib.hid hP1
    dsimp only [ecells, sgb] at hc hk
    clear hP1 hW1 HP
    go_quiet (fail)
    go_wp2
    exact bodyPost_ret (v := .tuple #[]) (by simp [results, Try.results98, go_sem]) rfl ⟨rfl, (HP1.out.drewN _).go⟩
  have t1 : (f / 2 % 2 * 2 == 0) = false := by simp; omega
  by_cases g2 : befB x.top ak = true
  · have e1 : anX x xs.length ak f wi = x := if_pos (.inr (.inl g2))
    have e2 : anXs x xs ak f = xs := if_pos (.inr (.inl g2))
    rw [e1, e2]
    have HB1 := Lib.hid (fun W => before_any x.top ak W)
    rw [g2] at HB1
    clear e1 e2 g1 g2
    go_enter Try.func98, Try.ntmps98
    go_wp2_with fail
    obtain ⟨W1, hW1⟩ : ∃ W1, W1 = w.alloc (.cells (sgb q ak f wi A n c) 25) := ⟨_, rfl⟩
    have hP1 := HP.out
    rw [← hW1] at hP1
    rw [show w.alloc (.cells #[.int .u32 q, .int .u32 ak, .int .i64 f, .int .i64 wi, .slice A n c] 25) = W1 from hW1.symm]
    have hc := hP1.o.blk.cell
    have hk := hP1.k
    have hlt := hP1.o.blk.lt
    have hs1 := hP1.s
    have HP1 := Lib.hid hP1
    dsimp only [ecells, sgb] at hc hk
    clear hP1 hW1 HP
    refine wp_region_near W1.heap.size (by kernel_rfl) (by kernel_rfl) ?_
    repeat (go_big_quiet_step (first | (go_at_call 10; exact Calls.near_same (HB1.out _))))
    refine wpQuiet_nil ?_
    intro w1 hb1
    have HQ := Lib.hid (HP1.out.grow hb1)
    clear hb1 hc hk hlt hs1 HP1
    go_wp2
    exact bodyPost_ret (v := .tuple #[]) (by simp [results, Try.results98, go_sem]) rfl ⟨rfl, HQ.out.go⟩
  have g2' : befB x.top ak = false := by simpa using g2
  have HB1 := Lib.hid (fun W => before_any x.top ak W)
  rw [g2'] at HB1
  by_cases g3 : befB ak x.una = true
  · have e1 : anX x xs.length ak f wi = x := if_pos (.inr (.inr g3))
    have e2 : anXs x xs ak f = xs := if_pos (.inr (.inr g3))
    rw [e1, e2]
    have HB2 := Lib.hid (fun W => before_any ak x.una W)
    rw [g3] at HB2
    clear e1 e2 g1 g2 g2' g3
    go_enter Try.func98, Try.ntmps98
    go_wp2_with fail
    obtain ⟨W1, hW1⟩ : ∃ W1, W1 = w.alloc (.cells (sgb q ak f wi A n c) 25) := ⟨_, rfl⟩
    have hP1 := HP.out
    rw [← hW1] at hP1
    rw [show w.alloc (.cells #[.int .u32 q, .int .u32 ak, .int .i64 f, .int .i64 wi, .slice A n c] 25) = W1 from hW1.symm]
    have hc := hP1.o.blk.cell
    have hk := hP1.k
    have hlt := hP1.o.blk.lt
    have hs1 := hP1.s
    have HP1 := Lib.hid hP1
    dsimp only [ecells, sgb] at hc hk
    clear hP1 hW1 HP
    refine wp_region_near W1.heap.size (by kernel_rfl) (by kernel_rfl) ?_
    repeat (go_big_quiet_step (first | (go_at_call 10; exact Calls.near_same (HB1.out _)) | (go_at_call 10; exact Calls.near_same (HB2.out _))))
    refine wpQuiet_nil ?_
    intro w1 hb1
    have HQ := Lib.hid (HP1.out.grow hb1)
    clear hb1 hc hk hlt hs1 HP1
    go_wp2
    exact bodyPost_ret (v := .tuple #[]) (by simp [results, Try.results98, go_sem]) rfl ⟨rfl, HQ.out.go⟩
  exact absurd hbad (fun hh => by
    rcases hh with hh | hh | hh
    · exact g1 hh
    · exact g2 hh
    · exact g3 hh)
set_option maxHeartbeats 4000000 in
set_option maxRecDepth 100000 in
theorem answer_same (h : ESt w B g x vo vi xs ys) (hB : B ≤ w.heap.size) (hl : xs.length ≤ 64) (q ak f wi : Int) (A : Option Addr) (n c : Nat) (hf0 : 0 ≤ f) (hf1 : f ≤ 15) (gb : ¬ anBad x ak f) (hz : anN x ak = 0) :
    Calls Try.prog 98 #[.pointer (some ⟨g, 0, none⟩), .agg #[.int .u32 q, .int .u32 ak, .int .i64 f, .int .i64 wi, .slice A n c]] w (ERetV w B g vo vi (anX x xs.length ak f wi) (anXs x xs ak f) ys) := by
  obtain ⟨b1, b2, b4, b8⟩ := flag_bits hf0 hf1
  have HP := Lib.hid (Pos.start h (sgb q ak f wi A n c))
  obtain ⟨A0, c0, A', c', rfl, rfl, h1, h2, h3, h4⟩ := h.look
  have hng := HP.out.ng
  have HBI := Lib.hid (Ob2.bo h)
  clear h
  have g1 : ¬ f / 2 % 2 = 0 := fun hh => gb (.inl hh)
  have g2 : ¬ befB x.top ak = true := fun hh => gb (.inr (.inl hh))
  have g3 : ¬ befB ak x.una = true := fun hh => gb (.inr (.inr hh))
  have t1 : (f / 2 % 2 * 2 == 0) = false := by simp; omega
  have g2' : befB x.top ak = false := by simpa using g2
  have HB1 := Lib.hid (fun W => before_any x.top ak W)
  rw [g2'] at HB1
  have g3' : befB ak x.una = false := by simpa using g3
  have HB2 := Lib.hid (fun W => before_any ak x.una W)
  rw [g3'] at HB2
  obtain ⟨d, hd⟩ : ∃ d, anN x ak = d := ⟨_, rfl⟩
  have g4 : d = 0 := hd.symm.trans hz
  have e1 : anX x xs.length ak f wi = { x with tries := 0, peer := wi } := (if_neg gb).trans (if_pos (hd.trans g4))
  have e2 : anXs x xs ak f = xs := (if_neg gb).trans (if_pos (hd.trans g4))
  rw [e1, e2]
  subst g4
  unfold anN at hd
  clear e1 e2 g1 g2 g2' g3 g3' gb
  go_enter Try.func98, Try.ntmps98
  go_wp2_with fail
  obtain ⟨W1, hW1⟩ : ∃ W1, W1 = w.alloc (.cells (sgb q ak f wi A n c) 25) := ⟨_, rfl⟩
  have hP1 := HP.out
  rw [← hW1] at hP1
  rw [show w.alloc (.cells #[.int .u32 q, .int .u32 ak, .int .i64 f, .int .i64 wi, .slice A n c] 25) = W1 from hW1.symm]
  have hc := hP1.o.blk.cell
  have hk := hP1.k
  have hlt := hP1.o.blk.lt
  have hs1 := hP1.s
  have HP1 := Lib.hid hP1
  dsimp only [ecells, sgb] at hc hk
  clear hP1 hW1 HP
  refine wp_region_near W1.heap.size (by kernel_rfl) (by kernel_rfl) ?_
  repeat (go_big_quiet_step (first | (go_at_call 10; exact Calls.near_same (HB1.out _)) | (go_at_call 10; exact Calls.near_same (HB2.out _))))
  refine wpQuiet_nil ?_
  intro WX hb1
  have HQ := Lib.hid (HP1.out.grow hb1)
  clear hb1 hc hk hlt hs1 HP1
  have hc13 : WX.cell? ⟨g, 13, none⟩ = some (.int .i64 x.tries) := HQ.out.o.blk.cell 13
  have hc8 : WX.cell? ⟨g, 8, none⟩ = some (.int .i64 x.peer) := HQ.out.o.blk.cell 8
  have hk3 : WX.cell? ⟨w.heap.size, 3, none⟩ = some (.int .i64 wi) := HQ.out.k 3
  have hf9 := HQ.out.o.blk.free
  have hl9 := HQ.out.o.blk.lt
  have hs9 := HQ.out.s
  go_wp2
  go_region
  go_wp2
  obtain ⟨WY, hWY⟩ : ∃ WY, WY = ((WX.setCell ⟨g, 13, none⟩ (.int .i64 0)).setCell ⟨g, 8, none⟩ (.int .i64 wi)).drew := ⟨_, rfl⟩
  rw [← hWY]
  have HY := Lib.hid ((HQ.out.set1 (x' := { x with tries := 0 }) 13 (.int .i64 0) (by simp [ecells])).set1 (x' := { x with tries := 0, peer := wi }) 8 (.int .i64 wi) (by simp [ecells])).drew
  rw [← hWY] at HY
  clear hWY hc13 hc8 hk3 hf9 hl9 hs9 HQ
  have hc1 : WY.cell? ⟨g, 1, none⟩ = some (.int .u32 x.una) := HY.out.o.blk.cell 1
  have hk1 : WY.cell? ⟨w.heap.size, 1, none⟩ = some (.int .u32 ak) := HY.out.k 1
  go_quiet (fail)
  go_wp2
  exact bodyPost_ret (v := .tuple #[]) (by simp [results, Try.results98, go_sem]) rfl ⟨rfl, (HY.out.drewN _).go⟩
end
end Go.Proofs.Ythlhjaacjhlkhaa
