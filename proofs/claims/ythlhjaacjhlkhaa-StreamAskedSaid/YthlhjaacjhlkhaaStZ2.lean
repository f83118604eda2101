/- One end of a stream: the whole of Come. -/
import Derived.Test.YthlhjaacjhlkhaaStZ
namespace Go.Proofs.Ythlhjaacjhlkhaa
open Go.RowKit
set_option maxHeartbeats 400000
set_option linter.unusedVariables false
set_option linter.unusedSimpArgs false
section
variable {w : World} {B g : Nat} {x : EC} {s : Sm} {vo vi : Value} {m : Nat}
set_option maxHeartbeats 2000000 in
set_option maxRecDepth 100000 in
theorem ecome_bad (h : ESt w B g x vo vi s.out s.inn) (tie : Tie s x) (sq ak f wi : Int) (A : Option Addr) (n c : Nat) (he : checkI f wi n ≠ 0) :
    Calls Try.prog 52 #[.pointer (some ⟨g, 0, none⟩), .agg #[.int .u32 sq, .int .u32 ak, .int .i64 f, .int .i64 wi, .slice A n c]] w (ESRet (checkI f wi n) w B g vo vi s) := by
  have HS := Lib.hid (fun w' hb => Ob2.same (w' := w') h hb)
  have HT := Lib.hid tie
  have HCK := Lib.hid (fun W => check_any sq ak f wi A n c W)
  generalize checkI f wi n = er at *
  have d1 : (er != 0) = true := by simpa using he
  clear h he tie
  go_enter Try.func52, Try.ntmps52
  go_wp2_with fail
  refine (HCK.out _).mono ?_
  rintro e w1 ⟨rfl, hbs⟩
  have HB1 := Lib.hid (((Below.refl w.heap.size w).alloc (Nat.le_refl _) (.cells (sgb sq ak f wi A n c) 25)).trans (hbs.mono (by simp)))
  clear hbs
  go_wp2
  go_ret
  exact ⟨rfl, x, HT.out, HS.out _ HB1.out⟩
set_option maxHeartbeats 2000000 in
set_option maxRecDepth 100000 in
theorem ecome_over (h : ESt w B g x vo vi s.out s.inn) (tie : Tie s x) (sq ak f wi : Int) (A : Option Addr) (n c : Nat) (he : checkI f wi n = 0) (hs : s.st = 5) :
    Calls Try.prog 52 #[.pointer (some ⟨g, 0, none⟩), .agg #[.int .u32 sq, .int .u32 ak, .int .i64 f, .int .i64 wi, .slice A n c]] w (ESRet 8 w B g vo vi s) := by
  have HS := Lib.hid (fun w' hb => Ob2.same (w' := w') h hb)
  have HGB := Lib.hid (fun w' (hb : Below w.heap.size w w') => Ob2.grow h hb)
  have HCK := Lib.hid (fun W => check_any sq ak f wi A n c W)
  rw [he] at HCK
  have d2 : (x.st == 0) = false := by rw [tie.st, hs]; rfl
  have d3 : (x.st == 5) = true := by rw [tie.st, hs]; rfl
  have HT := Lib.hid tie
  clear h he hs tie
  go_enter Try.func52, Try.ntmps52
  go_wp2_with fail
  refine (HCK.out _).mono ?_
  rintro e w1 ⟨rfl, hbs⟩
  have hbb : Below w.heap.size w w1 := ((Below.refl w.heap.size w).alloc (Nat.le_refl _) (.cells (sgb sq ak f wi A n c) 25)).trans (hbs.mono (by simp))
  have HB1 := Lib.hid hbb
  have hc : ∀ j, w1.cell? ⟨g, j, none⟩ = (ecells x vo vi)[j]? := (Ob2.blk (HGB.out w1 hbb)).cell
  have hlt := (Ob2.blk (HGB.out w1 hbb)).lt
  dsimp only [ecells] at hc
  clear hbs hbb
  go_wp2
  go_ret
  exact ⟨rfl, x, HT.out, HS.out _ HB1.out⟩
theorem tie_reset (t : Tie s x) : Tie { s with st := 5 } { x with st := 5 } :=
  ⟨rfl, t.una, t.nxt, t.top, t.first, fun h => by have h : (5 : Int) = 3 ∨ (5 : Int) = 4 := h; omega, t.peer, t.shut, t.fin, t.due, t.wait, t.tries⟩
set_option maxHeartbeats 8000000 in
set_option maxRecDepth 100000 in
theorem ecome_reset (h : ESt w B g x vo vi s.out s.inn) (tie : Tie s x) (hB : B ≤ w.heap.size) (sq ak f wi : Int) (ds : List Int) (hx : Sg.Fine ⟨sq, ak, f, wi, ds⟩) (A : Option Addr) (n c : Nat) (hd : RB w B A n ds) (hnc : n ≤ c) (hcm : c ≤ 9223372036854775807) (he : checkI f wi n = 0) (hok : s.Ok m) (hm : m ≤ 1000) (hs5 : s.st ≠ 5) (hr : f / 8 % 2 = 1) :
    Calls Try.prog 52 #[.pointer (some ⟨g, 0, none⟩), .agg #[.int .u32 sq, .int .u32 ak, .int .i64 f, .int .i64 wi, .slice A n c]] w (ESRet 0 w B g vo vi (if 1 < s.st then { s with st := 5 } else s)) := by
  have HGB := Lib.hid (fun w' (hb : Below w.heap.size w w') => Ob2.grow h hb)
  have HCK := Lib.hid (fun W => check_any sq ak f wi A n c W)
  rw [he] at HCK
  have HRB := Lib.hid (fun w' (ha : ∃ v1 v2, At2 w g vo vi w' v1 v2) => (show RB w' B A n ds from by
    obtain ⟨v1, v2, ha⟩ := ha
    exact hd.below' (ha.1.below hB (fun k hk => (Ob2.lt h k hk).1)) (Nat.le_refl _)))
  have HINI := Lib.hid (fun w' (hb : Below w.heap.size w w') hk hs => EPos.init (sb := sgb sq ak f wi A n c) (W := w') h hb hk hs)
  have d2 : (x.st == 0) = false := by rw [beq_eq_false_iff_ne, tie.st]; have := hok.st0; omega
  have d3 : (x.st == 5) = false := by rw [tie.st]; simpa using hs5
  obtain ⟨b1, b2, b4, b8⟩ := flag_bits hx.flags.1 hx.flags.2
  have hqlt := (Ob2.blk h).lt
  have hne : ¬ w.heap.size = g := by omega
  have hkb := (Blk.new w (sgb sq ak f wi A n c) 25)
  have t8 : (f / 8 % 2 * 8 != 0) = true := by rw [hr]; rfl
  obtain ⟨sy, hsy⟩ : ∃ sy, (f % 2 != 0) = sy := ⟨_, rfl⟩
  obtain ⟨ac, hac⟩ : ∃ ac, (f / 2 % 2 * 2 != 0) = ac := ⟨_, rfl⟩
  obtain ⟨ta, hta⟩ : ∃ ta, (ak == x.first) = ta := ⟨_, rfl⟩
  obtain ⟨tp, htp⟩ : ∃ tp, (x.top == x.first) = tp := ⟨_, rfl⟩
  have Hsy : Hid (Sg.syn ⟨sq, ak, f, wi, ds⟩ = sy) := Lib.hid (by rw [← hsy]; exact (sg_bits' f).1.symm)
  have Hac : Hid (Sg.ac ⟨sq, ak, f, wi, ds⟩ = ac) := Lib.hid (by rw [← hac]; exact (sg_bits' f).2.symm)
  have HT := Lib.hid tie
  have HST : Hid (x.st = s.st) := Lib.hid tie.st
  have HX := Lib.hid hx
  have HOK := Lib.hid hok
  have HS5 := Lib.hid hs5
  have HM := Lib.hid hm
  have HLO : Hid (s.out.length ≤ 64 ∧ s.inn.length ≤ 64) := Lib.hid ⟨by rw [s.out_len]; exact hok.room, by rw [s.inn_len]; exact hok.rroom⟩
  have HLN : Hid (ds.length = n) := Lib.hid hd.len
  have hn32 : n ≤ 32 := by have h1 := hx.len; have h2 := hd.len; dsimp only at h1; omega
  have hf01 := hx.flags
  dsimp only at hf01
  have HSQ := Lib.hid hx.seq
  have HS1 : Hid (1 ≤ s.st) := Lib.hid HOK.out.st0
  by_cases h1 : 1 < s.st
  · rw [if_pos h1]
    have d4 : (x.st != 1) = true := by rw [HST.out]; simp; omega
    clear h1
    clear h he hd hx hok hs5 hr hm tie
    go_enter Try.func52, Try.ntmps52
    go_wp2_with fail
    refine (HCK.out _).mono ?_
    rintro e w1 ⟨rfl, hbs⟩
    have hbb : Below w.heap.size w w1 := ((Below.refl w.heap.size w).alloc (Nat.le_refl _) (.cells (sgb sq ak f wi A n c) 25)).trans (hbs.mono (by simp))
    have HB1 := Lib.hid hbb
    have hc : ∀ j, w1.cell? ⟨g, j, none⟩ = (ecells x vo vi)[j]? := (Ob2.blk (HGB.out w1 hbb)).cell
    have hk : ∀ j, w1.cell? ⟨w.heap.size, j, none⟩ = (sgb sq ak f wi A n c)[j]? := fun j => (hbs.cell (p := ⟨w.heap.size, j, none⟩) (by simp)).trans (hkb.cell j)
    have hlt := (Ob2.blk (HGB.out w1 hbb)).lt
    have hlk : w.heap.size < w1.heap.size := by have := hbs.size; simp at this; omega
    have HP1 := Lib.hid (HINI.out w1 hbb hk hlk)
    dsimp only [ecells, sgb] at hc hk
    clear hbs hbb hkb
    go_wp2_with fail
    go_quiet (fail)
    obtain ⟨W2, hWW2⟩ : ∃ W, W = w1.drewN nq := ⟨_, rfl⟩
    rw [← hWW2]
    have HPW2 : Hid (EPos w B g vo vi (sgb sq ak f wi A n c) W2 x vo vi s.out s.inn) := Lib.hid (by rw [hWW2]; exact HP1.out.drewN _)
    clear hWW2 hc hk hlt hlk
    have hc := HPW2.out.p.o.blk.cell
    have hk := HPW2.out.p.k
    have hlt := HPW2.out.p.o.blk.lt
    have hlk := HPW2.out.p.s
    have hfz := HPW2.out.p.o.blk.free
    dsimp only [ecells, sgb] at hc hk
    have HX1 : Hid (EPos w B g vo vi (sgb sq ak f wi A n c) (W2.setCell ⟨g, 0, none⟩ (.int .i64 5)) { x with st := 5 } vo vi s.out s.inn) := Lib.hid (HPW2.out.set1 (x' := { x with st := 5 }) 0 (.int .i64 5) (by simp [ecells]))
    go_wp2
    go_ret
    exact ⟨rfl, _, tie_reset HT.out, HX1.out.p.go⟩
  · rw [if_neg h1]
    have d4 : (x.st != 1) = false := by rw [HST.out]; have := HS1.out; simp; omega
    clear h1
    clear h he hd hx hok hs5 hr hm tie
    go_enter Try.func52, Try.ntmps52
    go_wp2_with fail
    refine (HCK.out _).mono ?_
    rintro e w1 ⟨rfl, hbs⟩
    have hbb : Below w.heap.size w w1 := ((Below.refl w.heap.size w).alloc (Nat.le_refl _) (.cells (sgb sq ak f wi A n c) 25)).trans (hbs.mono (by simp))
    have HB1 := Lib.hid hbb
    have hc : ∀ j, w1.cell? ⟨g, j, none⟩ = (ecells x vo vi)[j]? := (Ob2.blk (HGB.out w1 hbb)).cell
    have hk : ∀ j, w1.cell? ⟨w.heap.size, j, none⟩ = (sgb sq ak f wi A n c)[j]? := fun j => (hbs.cell (p := ⟨w.heap.size, j, none⟩) (by simp)).trans (hkb.cell j)
    have hlt := (Ob2.blk (HGB.out w1 hbb)).lt
    have hlk : w.heap.size < w1.heap.size := by have := hbs.size; simp at this; omega
    have HP1 := Lib.hid (HINI.out w1 hbb hk hlk)
    dsimp only [ecells, sgb] at hc hk
    clear hbs hbb hkb
    go_wp2_with fail
    go_quiet (fail)
    obtain ⟨W2, hWW2⟩ : ∃ W, W = w1.drewN nq := ⟨_, rfl⟩
    rw [← hWW2]
    have HPW2 : Hid (EPos w B g vo vi (sgb sq ak f wi A n c) W2 x vo vi s.out s.inn) := Lib.hid (by rw [hWW2]; exact HP1.out.drewN _)
    clear hWW2 hc hk hlt hlk
    have hc := HPW2.out.p.o.blk.cell
    have hk := HPW2.out.p.k
    have hlt := HPW2.out.p.o.blk.lt
    have hlk := HPW2.out.p.s
    have hfz := HPW2.out.p.o.blk.free
    dsimp only [ecells, sgb] at hc hk
    go_wp2
    go_ret
    exact ⟨rfl, x, HT.out, HPW2.out.p.go⟩
/-- P51.5. -/
theorem ecome (h : ESt w B g x vo vi s.out s.inn) (tie : Tie s x) (hB : B ≤ w.heap.size) (y : Sg) (hs : 0 ≤ y.seq ∧ y.seq < 4294967296) (ha : 0 ≤ y.ack ∧ y.ack < 4294967296) (A : Option Addr) (n c : Nat) (hd : RB w B A n y.dat) (hnc : n ≤ c) (hcm : c ≤ 9223372036854775807) (hok : s.Ok m) (hm : m ≤ 1000) :
    Calls Try.prog 52 #[.pointer (some ⟨g, 0, none⟩), .agg #[.int .u32 y.seq, .int .u32 y.ack, .int .i64 y.flags, .int .i64 y.window, .slice A n c]] w (ESRet (s.cameE (checkI y.flags y.window n)) w B g vo vi (if checkI y.flags y.window n = 0 then s.cameS y else s)) := by
  obtain ⟨sq, ak, f, wi, ds⟩ := y
  dsimp only at *
  have hln := hd.len
  by_cases he : checkI f wi n = 0
  · rw [if_pos he]
    have hx : Sg.Fine ⟨sq, ak, f, wi, ds⟩ := by
      unfold checkI at he
      split at he
      · cases he
      · split at he
        · cases he
        · exact ⟨hs, ha, by show 0 ≤ f ∧ f ≤ 15; omega, by show 0 ≤ wi ∧ wi ≤ 255; omega, by show ds.length ≤ 32; omega, hd.2⟩
    by_cases h5 : s.st = 5
    · have e1 : s.cameE (checkI f wi n) = 8 := by unfold Sm.cameE; rw [he, if_neg (by decide), if_pos h5]
      have e2 : s.cameS ⟨sq, ak, f, wi, ds⟩ = s := by unfold Sm.cameS; rw [if_pos h5]
      rw [e1, e2]
      exact ecome_over h tie sq ak f wi A n c he h5
    · have e1 : s.cameE (checkI f wi n) = 0 := by unfold Sm.cameE; rw [he, if_neg (by decide), if_neg h5]
      rw [e1]
      by_cases hr : f / 8 % 2 = 1
      · have e2 : s.cameS ⟨sq, ak, f, wi, ds⟩ = if 1 < s.st then { s with st := 5 } else s := by
          unfold Sm.cameS
          rw [if_neg h5, if_pos (by simp [Sg.rs, hr])]
        rw [e2]
        exact ecome_reset h tie hB sq ak f wi ds hx A n c hd hnc hcm he hok hm h5 hr
      · have hr0 : f / 8 % 2 = 0 := by omega
        have h0 := hok.st0
        have h6 := hok.st5
        rcases (by omega : s.st = 1 ∨ s.st = 2 ∨ s.st = 3 ∨ s.st = 4) with h1 | h1 | h1 | h1
        · exact ecome_on1 h tie hB sq ak f wi ds hx A n c hd hnc hcm he hok hm h5 hr0 h1
        · exact ecome_on2 h tie hB sq ak f wi ds hx A n c hd hnc hcm he hok hm h5 hr0 h1
        · exact ecome_on3 h tie hB sq ak f wi ds hx A n c hd hnc hcm he hok hm h5 hr0 h1
        · exact ecome_on4 h tie hB sq ak f wi ds hx A n c hd hnc hcm he hok hm h5 hr0 h1
  · rw [if_neg he]
    have e1 : s.cameE (checkI f wi n) = checkI f wi n := by unfold Sm.cameE; rw [if_pos he]
    rw [e1]
    exact ecome_bad h tie sq ak f wi A n c he
end
end Go.Proofs.Ythlhjaacjhlkhaa
