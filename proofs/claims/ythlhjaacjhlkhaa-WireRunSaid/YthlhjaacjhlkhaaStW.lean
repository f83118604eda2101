/- One end of a stream, the reference: contract of Came, the ways of a fault, of an end that is over, and of a reset. -/
import Derived.Test.YthlhjaacjhlkhaaStV
namespace Go.Proofs.Ythlhjaacjhlkhaa
open Go.RowKit
set_option maxHeartbeats 400000
set_option linter.unusedVariables false
set_option linter.unusedSimpArgs false
section
variable {w : World} {B q : Nat} {s : Sm} {vo vi : Value} {m : Nat}
set_option maxHeartbeats 2000000 in
set_option maxRecDepth 100000 in
theorem rcame_bad (h : RSt w B q s vo vi) (sq ak f wi : Int) (A : Option Addr) (n c : Nat) (hf : -9223372036854775808 ≤ f ∧ f ≤ 9223372036854775807) (hwi : -9223372036854775808 ≤ wi ∧ wi ≤ 9223372036854775807) (he : checkI f wi n ≠ 0) :
    Calls Try.prog 53 #[.pointer (some ⟨q, 0, none⟩), .agg #[.int .u32 sq, .int .u32 ak, .int .i64 f, .int .i64 wi, .slice A n c]] w (RRet (checkI f wi n) w B q vo vi s) := by
  have HS := Lib.hid (fun w' hb => Ob2.same (w' := w') h hb)
  have HCK := Lib.hid (fun W => segFault_any sq ak f wi A n c W hf hwi)
  generalize checkI f wi n = er at *
  have d1 : (er != 0) = true := by simpa using he
  clear h he
  go_enter Try.func53, Try.ntmps53
  go_wp2_with fail
  refine (HCK.out _).mono ?_
  rintro e w1 ⟨rfl, hbs⟩
  have HB1 := Lib.hid (((Below.refl w.heap.size w).alloc (Nat.le_refl _) (.cells (sgb sq ak f wi A n c) 25)).trans (hbs.mono (by simp)))
  clear hbs
  go_wp2
  go_ret
  exact ⟨rfl, HS.out _ HB1.out⟩
set_option maxHeartbeats 2000000 in
set_option maxRecDepth 100000 in
theorem rcame_over (h : RSt w B q s vo vi) (sq ak f wi : Int) (A : Option Addr) (n c : Nat) (hf : -9223372036854775808 ≤ f ∧ f ≤ 9223372036854775807) (hwi : -9223372036854775808 ≤ wi ∧ wi ≤ 9223372036854775807) (he : checkI f wi n = 0) (hs : s.st = 5) :
    Calls Try.prog 53 #[.pointer (some ⟨q, 0, none⟩), .agg #[.int .u32 sq, .int .u32 ak, .int .i64 f, .int .i64 wi, .slice A n c]] w (RRet 8 w B q vo vi s) := by
  have HS := Lib.hid (fun w' hb => Ob2.same (w' := w') h hb)
  have HGB := Lib.hid (fun w' (hb : Below w.heap.size w w') => Ob2.grow h hb)
  have HCK := Lib.hid (fun W => segFault_any sq ak f wi A n c W hf hwi)
  rw [he] at HCK
  have d2 : (s.st == 0) = false := by rw [hs]; rfl
  have d3 : (s.st == 5) = true := by rw [hs]; rfl
  clear h he hs
  go_enter Try.func53, Try.ntmps53
  go_wp2_with fail
  refine (HCK.out _).mono ?_
  rintro e w1 ⟨rfl, hbs⟩
  have hbb : Below w.heap.size w w1 := ((Below.refl w.heap.size w).alloc (Nat.le_refl _) (.cells (sgb sq ak f wi A n c) 25)).trans (hbs.mono (by simp))
  have HB1 := Lib.hid hbb
  have hc : ∀ j, w1.cell? ⟨q, j, none⟩ = (rcells s vo vi)[j]? := (Ob2.blk (HGB.out w1 hbb)).cell
  have hlt := (Ob2.blk (HGB.out w1 hbb)).lt
  dsimp only [rcells] at hc
  clear hbs hbb
  go_wp2
  go_ret
  exact ⟨rfl, HS.out _ HB1.out⟩
set_option maxHeartbeats 2000000 in
set_option maxRecDepth 100000 in
theorem rcame_reset (h : RSt w B q s vo vi) (sq ak f wi : Int) (A : Option Addr) (n c : Nat) (hf : 0 ≤ f ∧ f ≤ 15) (hwi : 0 ≤ wi ∧ wi ≤ 255) (he : checkI f wi n = 0) (hs5 : s.st ≠ 5) (hs0 : 1 ≤ s.st) (hr : f / 8 % 2 = 1) :
    Calls Try.prog 53 #[.pointer (some ⟨q, 0, none⟩), .agg #[.int .u32 sq, .int .u32 ak, .int .i64 f, .int .i64 wi, .slice A n c]] w (RRet 0 w B q vo vi (if 1 < s.st then { s with st := 5 } else s)) := by
  have HS := Lib.hid (fun w' hb => Ob2.same (w' := w') h hb)
  have HGB := Lib.hid (fun w' (hb : Below w.heap.size w w') => Ob2.grow h hb)
  have HCK := Lib.hid (fun W => segFault_any sq ak f wi A n c W (by omega) (by omega))
  rw [he] at HCK
  have d2 : (s.st == 0) = false := by rw [beq_eq_false_iff_ne]; omega
  have d3 : (s.st == 5) = false := by simpa using hs5
  obtain ⟨b1, b2, b4, b8⟩ := flag_bits hf.1 hf.2
  have hqlt := (Ob2.blk h).lt
  have hne : ¬ w.heap.size = q := by omega
  have hkb := (Blk.new w (sgb sq ak f wi A n c) 25)
  clear h he hs5
  have t8 : (f / 8 % 2 * 8 == 8) = true := by rw [hr]; rfl
  by_cases h1 : 1 < s.st
  · rw [if_pos h1]
    have d4 : decide (1 < s.st) = true := by simpa using h1
    clear hr h1
    go_enter Try.func53, Try.ntmps53
    go_wp2_with fail
    refine (HCK.out _).mono ?_
    rintro e w1 ⟨rfl, hbs⟩
    have hbb : Below w.heap.size w w1 := ((Below.refl w.heap.size w).alloc (Nat.le_refl _) (.cells (sgb sq ak f wi A n c) 25)).trans (hbs.mono (by simp))
    have HB1 := Lib.hid hbb
    have hc : ∀ j, w1.cell? ⟨q, j, none⟩ = (rcells s vo vi)[j]? := (Ob2.blk (HGB.out w1 hbb)).cell
    have hk : ∀ j, w1.cell? ⟨w.heap.size, j, none⟩ = (sgb sq ak f wi A n c)[j]? := fun j => (hbs.cell (p := ⟨w.heap.size, j, none⟩) (by simp)).trans (hkb.cell j)
    have hlt := (Ob2.blk (HGB.out w1 hbb)).lt
    have hlk : w.heap.size < w1.heap.size := by have := hbs.size; simp at this; omega
    dsimp only [rcells, sgb] at hc hk
    clear hbs hbb hkb
    go_wp2
    go_quiet (fail)
    obtain ⟨W2, hW2⟩ : ∃ W2, W2 = w1.drewN nq := ⟨_, rfl⟩
    rw [← hW2]
    have hbW : Below w1.heap.size w1 W2 := by rw [hW2]; exact st_drewN (Below.refl _ _) _
    have HB2 := Lib.hid (HB1.out.trans (hbW.mono HB1.out.size))
    have hc2 : ∀ j, W2.cell? ⟨q, j, none⟩ = (rcells s vo vi)[j]? := by rw [hW2]; exact hc
    have hk2 : ∀ j, W2.cell? ⟨w.heap.size, j, none⟩ = (sgb sq ak f wi A n c)[j]? := by rw [hW2]; exact hk
    have hlt2 : q < W2.heap.size := by rw [hW2]; exact hlt
    have hlk2 : w.heap.size < W2.heap.size := by rw [hW2]; exact hlk
    have hfz2 := (Ob2.blk (HGB.out W2 HB2.out)).free
    dsimp only [rcells, sgb] at hc2 hk2
    clear hW2 hbW hc hk hlt hlk
    have HX : Hid (RSGo w B q vo vi { s with st := 5 } (W2.setCell ⟨q, 0, none⟩ (.int .i64 5))) := Lib.hid (by
      have hX := Ob2.set1 (cs' := rcells { s with st := 5 }) (HGB.out W2 HB2.out) 0 (.int .i64 5) (by simp [rcells])
      exact ((At2.grow (g := q) (vo := vo) (vi := vi) HB2.out).trans hX.2).go hX.1)
    go_wp2
    go_ret
    exact ⟨rfl, HX.out⟩
  · rw [if_neg h1]
    have d4 : decide (1 < s.st) = false := by simpa using h1
    clear hr h1
    go_enter Try.func53, Try.ntmps53
    go_wp2_with fail
    refine (HCK.out _).mono ?_
    rintro e w1 ⟨rfl, hbs⟩
    have hbb : Below w.heap.size w w1 := ((Below.refl w.heap.size w).alloc (Nat.le_refl _) (.cells (sgb sq ak f wi A n c) 25)).trans (hbs.mono (by simp))
    have HB1 := Lib.hid hbb
    have hc : ∀ j, w1.cell? ⟨q, j, none⟩ = (rcells s vo vi)[j]? := (Ob2.blk (HGB.out w1 hbb)).cell
    have hk : ∀ j, w1.cell? ⟨w.heap.size, j, none⟩ = (sgb sq ak f wi A n c)[j]? := fun j => (hbs.cell (p := ⟨w.heap.size, j, none⟩) (by simp)).trans (hkb.cell j)
    have hlt := (Ob2.blk (HGB.out w1 hbb)).lt
    have hlk : w.heap.size < w1.heap.size := by have := hbs.size; simp at this; omega
    dsimp only [rcells, sgb] at hc hk
    clear hbs hbb hkb
    go_wp2
    go_quiet (fail)
    obtain ⟨W2, hW2⟩ : ∃ W2, W2 = w1.drewN nq := ⟨_, rfl⟩
    rw [← hW2]
    have hbW : Below w1.heap.size w1 W2 := by rw [hW2]; exact st_drewN (Below.refl _ _) _
    have HB2 := Lib.hid (HB1.out.trans (hbW.mono HB1.out.size))
    have hc2 : ∀ j, W2.cell? ⟨q, j, none⟩ = (rcells s vo vi)[j]? := by rw [hW2]; exact hc
    have hk2 : ∀ j, W2.cell? ⟨w.heap.size, j, none⟩ = (sgb sq ak f wi A n c)[j]? := by rw [hW2]; exact hk
    have hlt2 : q < W2.heap.size := by rw [hW2]; exact hlt
    have hlk2 : w.heap.size < W2.heap.size := by rw [hW2]; exact hlk
    have hfz2 := (Ob2.blk (HGB.out W2 HB2.out)).free
    dsimp only [rcells, sgb] at hc2 hk2
    clear hW2 hbW hc hk hlt hlk
    go_wp2
    go_ret
    exact ⟨rfl, HS.out _ HB2.out⟩
set_option maxHeartbeats 2000000 in
set_option maxRecDepth 100000 in
theorem rcame_heard (h : RSt w B q s vo vi) (sq ak f wi : Int) (A : Option Addr) (n c : Nat) (hf : 0 ≤ f ∧ f ≤ 15) (hwi : 0 ≤ wi ∧ wi ≤ 255) (he : checkI f wi n = 0) (hs5 : s.st ≠ 5) (hs0 : s.st = 1) (hr : f / 8 % 2 = 0) (hsy : f % 2 = 1) (hac : f / 2 % 2 = 0) :
    Calls Try.prog 53 #[.pointer (some ⟨q, 0, none⟩), .agg #[.int .u32 sq, .int .u32 ak, .int .i64 f, .int .i64 wi, .slice A n c]] w (RRet 0 w B q vo vi { s with st := 3, irs := sq, peer := wi }) := by
  have HGB := Lib.hid (fun w' (hb : Below w.heap.size w w') => Ob2.grow h hb)
  have HCK := Lib.hid (fun W => segFault_any sq ak f wi A n c W (by omega) (by omega))
  rw [he] at HCK
  have d2 : (s.st == 0) = false := by rw [beq_eq_false_iff_ne]; omega
  have d3 : (s.st == 5) = false := by simpa using hs5
  obtain ⟨b1, b2, b4, b8⟩ := flag_bits hf.1 hf.2
  have hqlt := (Ob2.blk h).lt
  have hne : ¬ w.heap.size = q := by omega
  have hkb := (Blk.new w (sgb sq ak f wi A n c) 25)
  clear h he hs5
  have t8 : (f / 8 % 2 * 8 == 8) = false := by rw [hr]; rfl
  have t1 : (f % 2 == 1) = true := by rw [hsy]; rfl
  have t2 : (f / 2 % 2 * 2 == 2) = false := by rw [hac]; rfl
  have e1 : (s.st == 1) = true := by rw [hs0]; rfl
  clear hr hsy hac hs0
  go_enter Try.func53, Try.ntmps53
  go_wp2_with fail
  refine (HCK.out _).mono ?_
  rintro e w1 ⟨rfl, hbs⟩
  have hbb : Below w.heap.size w w1 := ((Below.refl w.heap.size w).alloc (Nat.le_refl _) (.cells (sgb sq ak f wi A n c) 25)).trans (hbs.mono (by simp))
  have HB1 := Lib.hid hbb
  have hc : ∀ j, w1.cell? ⟨q, j, none⟩ = (rcells s vo vi)[j]? := (Ob2.blk (HGB.out w1 hbb)).cell
  have hk : ∀ j, w1.cell? ⟨w.heap.size, j, none⟩ = (sgb sq ak f wi A n c)[j]? := fun j => (hbs.cell (p := ⟨w.heap.size, j, none⟩) (by simp)).trans (hkb.cell j)
  have hlt := (Ob2.blk (HGB.out w1 hbb)).lt
  have hlk : w.heap.size < w1.heap.size := by have := hbs.size; simp at this; omega
  dsimp only [rcells, sgb] at hc hk
  clear hbs hbb hkb
  go_wp2
  go_quiet (fail)
  obtain ⟨W2, hW2⟩ : ∃ W2, W2 = w1.drewN nq := ⟨_, rfl⟩
  rw [← hW2]
  have hbW : Below w1.heap.size w1 W2 := by rw [hW2]; exact st_drewN (Below.refl _ _) _
  have HB2 := Lib.hid (HB1.out.trans (hbW.mono HB1.out.size))
  have hc2 : ∀ j, W2.cell? ⟨q, j, none⟩ = (rcells s vo vi)[j]? := by rw [hW2]; exact hc
  have hk2 : ∀ j, W2.cell? ⟨w.heap.size, j, none⟩ = (sgb sq ak f wi A n c)[j]? := by rw [hW2]; exact hk
  have hlt2 : q < W2.heap.size := by rw [hW2]; exact hlt
  have hlk2 : w.heap.size < W2.heap.size := by rw [hW2]; exact hlk
  have hfz2 := (Ob2.blk (HGB.out W2 HB2.out)).free
  dsimp only [rcells, sgb] at hc2 hk2
  clear hW2 hbW hc hk hlt hlk
  go_wp2
  refine wp_region_near W2.heap.size (by kernel_rfl) (by kernel_rfl) ?_
  repeat (go_big_quiet_step (fail))
  refine wpQuiet_nil ?_
  intro w3 hb3
  have HB3 := Lib.hid (HB2.out.trans (hb3.mono HB2.out.size))
  have hc3 : ∀ j, w3.cell? ⟨q, j, none⟩ = (rcells s vo vi)[j]? := (Ob2.blk (HGB.out w3 HB3.out)).cell
  have hk3 : ∀ j, w3.cell? ⟨w.heap.size, j, none⟩ = (sgb sq ak f wi A n c)[j]? := fun j => (hb3.cell (p := ⟨w.heap.size, j, none⟩) hlk2).trans (hk2 j)
  have hlt3 := (Ob2.blk (HGB.out w3 HB3.out)).lt
  have hlk3 : w.heap.size < w3.heap.size := Nat.lt_of_lt_of_le hlk2 hb3.size
  have hfz3 := (Ob2.blk (HGB.out w3 HB3.out)).free
  dsimp only [rcells, sgb] at hc3 hk3
  clear hc2 hk2 hlt2 hlk2 hfz2 hb3
  go_wp2
  have HX : Hid (RSGo w B q vo vi { s with st := 3, irs := sq, peer := wi } (((w3.setCell ⟨q, 0, none⟩ (.int .i64 3)).setCell ⟨q, 2, none⟩ (.int .u32 sq)).setCell ⟨q, 9, none⟩ (.int .i64 wi)).drew) := Lib.hid (by
    have a1 := Ob2.set1 (cs' := rcells { s with st := 3 }) (HGB.out _ HB3.out) 0 (.int .i64 3) (by simp [rcells])
    have a2 := Ob2.set1 (cs' := rcells { s with st := 3, irs := sq }) a1.1 2 (.int .u32 sq) (by simp [rcells])
    have a3 := Ob2.set1 (cs' := rcells { s with st := 3, irs := sq, peer := wi }) a2.1 9 (.int .i64 wi) (by simp [rcells])
    exact (((((At2.grow (g := q) (vo := vo) (vi := vi) HB3.out).trans a1.2).trans a2.2).trans a3.2).more ((Below.refl _ _).drew)).go (Ob2.grow a3.1 ((Below.refl _ _).drew)))
  go_region
  all_goals
    go_wp2
    go_ret
    exact ⟨rfl, HX.out⟩
end
end Go.Proofs.Ythlhjaacjhlkhaa
