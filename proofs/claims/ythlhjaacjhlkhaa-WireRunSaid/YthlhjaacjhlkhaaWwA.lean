/- The wire of the program: what its line does, deed by deed. -/
import Derived.Test.YthlhjaacjhlkhaaRows
import Derived.Test.YthlhjaacjhlkhaaSegG
import Derived.Test.YthlhjaacjhlkhaaOpen
import Derived.Test.YthlhjaacjhlkhaaStZ
import Derived.Test.YthlhjaacjhlkhaaSgD
import Derived.LoopTactic
import Derived.Test.YthlhjaacjhlkhaaSgE
import Derived.Test.YthlhjaacjhlkhaaSgF
import Derived.Test.YthlhjaacjhlkhaaStY4
import Derived.Test.YthlhjaacjhlkhaaStFb
import Derived.Test.YthlhjaacjhlkhaaRecs
import Derived.Test.YthlhjaacjhlkhaaSegF
import Derived.Test.YthlhjaacjhlkhaaStB
import Derived.Test.YthlhjaacjhlkhaaProg
import Derived.Test.YthlhjaacjhlkhaaDel
import Derived.Lib.SliceRun
import Derived.Deep.RegionLaw
import Derived.Test.YthlhjaacjhlkhaaOwn
import Derived.Test.YthlhjaacjhlkhaaStK
import Derived.Test.YthlhjaacjhlkhaaSegE
import Derived.Deep.RegionHeld3
import Derived.Deep.RegionHeldLaw
import Derived.Deep.DrawnRows
/- Contracts of both decoders. -/
namespace Go.Proofs.Ythlhjaacjhlkhaa
open Go.ChangeShapes Go.WideShapes Go.ChangeAt Go.RowKit Go.Joins Go.Deep
set_option maxHeartbeats 400000
set_option linter.unusedVariables false
set_option linter.unusedSimpArgs false
theorem dec_any (P : World → Dec → Ending → World → Prop) (f : Nat) (h1 : ∀ (A : Option Addr) (n c : Nat) (xs : List Int) (w : World), RB w w.heap.size A n xs → n < 14 → Calls Try.prog f #[.slice A n c] w (P w (.bad 21)))
    (h2 : ∀ (n c : Nat) (xs : List Int) (w : World) (b o : Nat), RB w w.heap.size (some ⟨b, o, none⟩) n xs → 14 ≤ n → n ≤ c → c ≤ 9223372036854775807 → b < w.heap.size → (n : Int) < 14 + xs.getD 10 0 → Calls Try.prog f #[.slice (some ⟨b, o, none⟩) n c] w (P w (.bad 21)))
    (h3 : ∀ (n c : Nat) (xs : List Int) (w : World) (b o : Nat), RB w w.heap.size (some ⟨b, o, none⟩) n xs → 14 ≤ n → n ≤ c → c ≤ 9223372036854775807 → b < w.heap.size → ¬ (n : Int) < 14 + xs.getD 10 0 → (14 + xs.getD 10 0 < (n : Int) ∨ xs.getD 11 0 ≠ 0) → Calls Try.prog f #[.slice (some ⟨b, o, none⟩) n c] w (P w (.bad 3)))
    (h4 : ∀ (n c : Nat) (xs : List Int) (w : World) (b o : Nat), RB w w.heap.size (some ⟨b, o, none⟩) n xs → 14 ≤ n → n ≤ 1000 → n ≤ c → c ≤ 9223372036854775807 → b < w.heap.size → (n : Int) = 14 + xs.getD 10 0 → xs.getD 11 0 = 0 → ∀ r : Dec, (r = if xs.getD 12 0 * 256 + xs.getD 13 0 ≠ sumI (plainI xs) then .bad 20 else
      if checkI (xs.getD 8 0) (xs.getD 9 0) (xs.length - 14) ≠ 0 then .bad (checkI (xs.getD 8 0) (xs.getD 9 0) (xs.length - 14)) else
      ⟨wordI xs, wordI (xs.drop 4), xs.getD 8 0, xs.getD 9 0, xs.drop 14, 0⟩) → Calls Try.prog f #[.slice (some ⟨b, o, none⟩) n c] w (P w r))
    (A : Option Addr) (n c : Nat) (xs : List Int) (w : World) (h : RB w w.heap.size A n xs) (hnc : n ≤ c) (hc : c ≤ 9223372036854775807) : Calls Try.prog f #[.slice A n c] w (P w (decI xs)) := by
  have hl := h.len
  unfold decI
  by_cases c1 : xs.length < 14
  · rw [if_pos c1]; exact h1 A n c xs w h (by omega)
  rw [if_neg c1]
  obtain ⟨b, o, rfl, hb, -⟩ := h.at_ (k := 0) (by omega)
  by_cases c2 : (xs.length : Int) < 14 + xs.getD 10 0
  · rw [if_pos c2]; exact h2 n c xs w b o h (by omega) hnc hc hb (by omega)
  rw [if_neg c2]
  by_cases c3 : 14 + xs.getD 10 0 < (xs.length : Int) ∨ xs.getD 11 0 ≠ 0
  · rw [if_pos c3]; exact h3 n c xs w b o h (by omega) hnc hc hb (by omega) (by rw [hl] at c3; exact c3)
  rw [if_neg c3]
  have r10 := h.rng 10
  exact h4 n c xs w b o h (by omega) (by omega) hnc hc hb (by omega) (by omega) _ rfl
theorem decode_new (A : Option Addr) (n c : Nat) (xs : List Int) (w : World) (h : RB w w.heap.size A n xs) (hnc : n ≤ c) (hc : c ≤ 9223372036854775807) : Calls Try.prog 21 #[.slice A n c] w (DecNew w (decI xs)) :=
  dec_any DecNew 21 decode_1 decode_2 decode_3 decode_4 A n c xs w h hnc hc
theorem decode_any (A : Option Addr) (n c : Nat) (xs : List Int) (w : World) (h : RB w w.heap.size A n xs) (hnc : n ≤ c) (hc : c ≤ 9223372036854775807) : Calls Try.prog 21 #[.slice A n c] w (DecPost w (decI xs)) :=
  (dec_any DecNew 21 decode_1 decode_2 decode_3 decode_4 A n c xs w h hnc hc).mono fun _ _ h => h.post
theorem segOf_any (A : Option Addr) (n c : Nat) (xs : List Int) (w : World) (h : RB w w.heap.size A n xs) (hnc : n ≤ c) (hc : c ≤ 9223372036854775807) : Calls Try.prog 22 #[.slice A n c] w (DecPost w (decI xs)) :=
  dec_any DecPost 22 segOf_1 segOf_2 segOf_3 segOf_4 A n c xs w h hnc hc
end Go.Proofs.Ythlhjaacjhlkhaa
/- One end of a stream: the whole of Come. -/
namespace Go.Proofs.Ythlhjaacjhlkhaa
open Go.RowKit
set_option maxHeartbeats 400000
set_option linter.unusedVariables false
set_option linter.unusedSimpArgs false
section
variable {w : World} {B g : Nat} {x : EC} {s : Sm} {vo vi : Value} {m : Nat}
set_option maxHeartbeats 2000000 in
set_option maxRecDepth 100000 in
theorem ecome_bad (h : ESt w B g x vo vi s.out s.inn) (tie : Tie s x) (sq ak f wi : Int) (A : Option Addr) (n c : Nat) (he : checkI f wi n ≠ 0) :
    Calls Try.prog 52 #[.pointer (some ⟨g, 0, none⟩), .agg #[.int .u32 sq, .int .u32 ak, .int .i64 f, .int .i64 wi, .slice A n c]] w (ESRet (checkI f wi n) w B g vo vi s) := by
  have HS := Lib.hid (fun w' hb => Ob2.same (w' := w') h hb)
  have HT := Lib.hid tie
  have HCK := Lib.hid (fun W => check_any sq ak f wi A n c W)
  generalize checkI f wi n = er at *
  have d1 : (er != 0) = true := by simpa using he
  clear h he tie
  go_enter Try.func52, Try.ntmps52
  go_wp2_with fail
  refine (HCK.out _).mono ?_
  rintro e w1 ⟨rfl, hbs⟩
  have HB1 := Lib.hid (((Below.refl w.heap.size w).alloc (Nat.le_refl _) (.cells (sgb sq ak f wi A n c) 25)).trans (hbs.mono (by simp)))
  clear hbs
  go_wp2
  go_ret
  exact ⟨rfl, x, HT.out, HS.out _ HB1.out⟩
set_option maxHeartbeats 2000000 in
set_option maxRecDepth 100000 in
theorem ecome_over (h : ESt w B g x vo vi s.out s.inn) (tie : Tie s x) (sq ak f wi : Int) (A : Option Addr) (n c : Nat) (he : checkI f wi n = 0) (hs : s.st = 5) :
    Calls Try.prog 52 #[.pointer (some ⟨g, 0, none⟩), .agg #[.int .u32 sq, .int .u32 ak, .int .i64 f, .int .i64 wi, .slice A n c]] w (ESRet 8 w B g vo vi s) := by
  have HS := Lib.hid (fun w' hb => Ob2.same (w' := w') h hb)
  have HGB := Lib.hid (fun w' (hb : Below w.heap.size w w') => Ob2.grow h hb)
  have HCK := Lib.hid (fun W => check_any sq ak f wi A n c W)
  rw [he] at HCK
  have d2 : (x.st == 0) = false := by rw [tie.st, hs]; rfl
  have d3 : (x.st == 5) = true := by rw [tie.st, hs]; rfl
  have HT := Lib.hid tie
  clear h he hs tie
  go_enter Try.func52, Try.ntmps52
  go_wp2_with fail
  refine (HCK.out _).mono ?_
  rintro e w1 ⟨rfl, hbs⟩
  have hbb : Below w.heap.size w w1 := ((Below.refl w.heap.size w).alloc (Nat.le_refl _) (.cells (sgb sq ak f wi A n c) 25)).trans (hbs.mono (by simp))
  have HB1 := Lib.hid hbb
  have hc : ∀ j, w1.cell? ⟨g, j, none⟩ = (ecells x vo vi)[j]? := (Ob2.blk (HGB.out w1 hbb)).cell
  have hlt := (Ob2.blk (HGB.out w1 hbb)).lt
  dsimp only [ecells] at hc
  clear hbs hbb
  go_wp2
  go_ret
  exact ⟨rfl, x, HT.out, HS.out _ HB1.out⟩
theorem tie_reset (t : Tie s x) : Tie { s with st := 5 } { x with st := 5 } :=
  ⟨rfl, t.una, t.nxt, t.top, t.first, fun h => by have h : (5 : Int) = 3 ∨ (5 : Int) = 4 := h; omega, t.peer, t.shut, t.fin, t.due, t.wait, t.tries⟩
set_option maxHeartbeats 8000000 in
set_option maxRecDepth 100000 in
theorem ecome_reset (h : ESt w B g x vo vi s.out s.inn) (tie : Tie s x) (hB : B ≤ w.heap.size) (sq ak f wi : Int) (ds : List Int) (hx : Sg.Fine ⟨sq, ak, f, wi, ds⟩) (A : Option Addr) (n c : Nat) (hd : Far w g vo vi A n ds) (hnc : n ≤ c) (hcm : c ≤ 9223372036854775807) (he : checkI f wi n = 0) (hok : s.Ok m) (hm : m ≤ 1000) (hs5 : s.st ≠ 5) (hr : f / 8 % 2 = 1) :
    Calls Try.prog 52 #[.pointer (some ⟨g, 0, none⟩), .agg #[.int .u32 sq, .int .u32 ak, .int .i64 f, .int .i64 wi, .slice A n c]] w (ESRet 0 w B g vo vi (if 1 < s.st then { s with st := 5 } else s)) := by
  have HGB := Lib.hid (fun w' (hb : Below w.heap.size w w') => Ob2.grow h hb)
  have HCK := Lib.hid (fun W => check_any sq ak f wi A n c W)
  rw [he] at HCK
  have HRB := Lib.hid (fun w' v1 v2 (ha : At2 w g vo vi w' v1 v2) => hd.at ha)
  have HINI := Lib.hid (fun w' (hb : Below w.heap.size w w') hk hs => EPos.init (sb := sgb sq ak f wi A n c) (W := w') h hb hk hs)
  have d2 : (x.st == 0) = false := by rw [beq_eq_false_iff_ne, tie.st]; have := hok.st0; omega
  have d3 : (x.st == 5) = false := by rw [tie.st]; simpa using hs5
  obtain ⟨b1, b2, b4, b8⟩ := flag_bits hx.flags.1 hx.flags.2
  have hqlt := (Ob2.blk h).lt
  have hne : ¬ w.heap.size = g := by omega
  have hkb := (Blk.new w (sgb sq ak f wi A n c) 25)
  have t8 : (f / 8 % 2 * 8 != 0) = true := by rw [hr]; rfl
  obtain ⟨sy, hsy⟩ : ∃ sy, (f % 2 != 0) = sy := ⟨_, rfl⟩
  obtain ⟨ac, hac⟩ : ∃ ac, (f / 2 % 2 * 2 != 0) = ac := ⟨_, rfl⟩
  obtain ⟨ta, hta⟩ : ∃ ta, (ak == x.first) = ta := ⟨_, rfl⟩
  obtain ⟨tp, htp⟩ : ∃ tp, (x.top == x.first) = tp := ⟨_, rfl⟩
  have Hsy : Hid (Sg.syn ⟨sq, ak, f, wi, ds⟩ = sy) := Lib.hid (by rw [← hsy]; exact (sg_bits' f).1.symm)
  have Hac : Hid (Sg.ac ⟨sq, ak, f, wi, ds⟩ = ac) := Lib.hid (by rw [← hac]; exact (sg_bits' f).2.symm)
  have HT := Lib.hid tie
  have HST : Hid (x.st = s.st) := Lib.hid tie.st
  have HX := Lib.hid hx
  have HOK := Lib.hid hok
  have HS5 := Lib.hid hs5
  have HM := Lib.hid hm
  have HLO : Hid (s.out.length ≤ 64 ∧ s.inn.length ≤ 64) := Lib.hid ⟨by rw [s.out_len]; exact hok.room, by rw [s.inn_len]; exact hok.rroom⟩
  have HLN : Hid (ds.length = n) := Lib.hid hd.len
  have hn32 : n ≤ 32 := by have h1 := hx.len; have h2 := hd.len; dsimp only at h1; omega
  have hf01 := hx.flags
  dsimp only at hf01
  have HSQ := Lib.hid hx.seq
  have HS1 : Hid (1 ≤ s.st) := Lib.hid HOK.out.st0
  by_cases h1 : 1 < s.st
  · rw [if_pos h1]
    have d4 : (x.st != 1) = true := by rw [HST.out]; simp; omega
    clear h1
    clear h he hd hx hok hs5 hr hm tie
    go_enter Try.func52, Try.ntmps52
    go_wp2_with fail
    refine (HCK.out _).mono ?_
    rintro e w1 ⟨rfl, hbs⟩
    have hbb : Below w.heap.size w w1 := ((Below.refl w.heap.size w).alloc (Nat.le_refl _) (.cells (sgb sq ak f wi A n c) 25)).trans (hbs.mono (by simp))
    have HB1 := Lib.hid hbb
    have hc : ∀ j, w1.cell? ⟨g, j, none⟩ = (ecells x vo vi)[j]? := (Ob2.blk (HGB.out w1 hbb)).cell
    have hk : ∀ j, w1.cell? ⟨w.heap.size, j, none⟩ = (sgb sq ak f wi A n c)[j]? := fun j => (hbs.cell (p := ⟨w.heap.size, j, none⟩) (by simp)).trans (hkb.cell j)
    have hlt := (Ob2.blk (HGB.out w1 hbb)).lt
    have hlk : w.heap.size < w1.heap.size := by have := hbs.size; simp at this; omega
    have HP1 := Lib.hid (HINI.out w1 hbb hk hlk)
    dsimp only [ecells, sgb] at hc hk
    clear hbs hbb hkb
    go_wp2_with fail
    go_quiet (fail)
    obtain ⟨W2, hWW2⟩ : ∃ W, W = w1.drewN nq := ⟨_, rfl⟩
    rw [← hWW2]
    have HPW2 : Hid (EPos w B g vo vi (sgb sq ak f wi A n c) W2 x vo vi s.out s.inn) := Lib.hid (by rw [hWW2]; exact HP1.out.drewN _)
    clear hWW2 hc hk hlt hlk
    have hc := HPW2.out.p.o.blk.cell
    have hk := HPW2.out.p.k
    have hlt := HPW2.out.p.o.blk.lt
    have hlk := HPW2.out.p.s
    have hfz := HPW2.out.p.o.blk.free
    dsimp only [ecells, sgb] at hc hk
    have HX1 : Hid (EPos w B g vo vi (sgb sq ak f wi A n c) (W2.setCell ⟨g, 0, none⟩ (.int .i64 5)) { x with st := 5 } vo vi s.out s.inn) := Lib.hid (HPW2.out.set1 (x' := { x with st := 5 }) 0 (.int .i64 5) (by simp [ecells]))
    go_wp2
    go_ret
    exact ⟨rfl, _, tie_reset HT.out, HX1.out.p.go⟩
  · rw [if_neg h1]
    have d4 : (x.st != 1) = false := by rw [HST.out]; have := HS1.out; simp; omega
    clear h1
    clear h he hd hx hok hs5 hr hm tie
    go_enter Try.func52, Try.ntmps52
    go_wp2_with fail
    refine (HCK.out _).mono ?_
    rintro e w1 ⟨rfl, hbs⟩
    have hbb : Below w.heap.size w w1 := ((Below.refl w.heap.size w).alloc (Nat.le_refl _) (.cells (sgb sq ak f wi A n c) 25)).trans (hbs.mono (by simp))
    have HB1 := Lib.hid hbb
    have hc : ∀ j, w1.cell? ⟨g, j, none⟩ = (ecells x vo vi)[j]? := (Ob2.blk (HGB.out w1 hbb)).cell
    have hk : ∀ j, w1.cell? ⟨w.heap.size, j, none⟩ = (sgb sq ak f wi A n c)[j]? := fun j => (hbs.cell (p := ⟨w.heap.size, j, none⟩) (by simp)).trans (hkb.cell j)
    have hlt := (Ob2.blk (HGB.out w1 hbb)).lt
    have hlk : w.heap.size < w1.heap.size := by have := hbs.size; simp at this; omega
    have HP1 := Lib.hid (HINI.out w1 hbb hk hlk)
    dsimp only [ecells, sgb] at hc hk
    clear hbs hbb hkb
    go_wp2_with fail
    go_quiet (fail)
    obtain ⟨W2, hWW2⟩ : ∃ W, W = w1.drewN nq := ⟨_, rfl⟩
    rw [← hWW2]
    have HPW2 : Hid (EPos w B g vo vi (sgb sq ak f wi A n c) W2 x vo vi s.out s.inn) := Lib.hid (by rw [hWW2]; exact HP1.out.drewN _)
    clear hWW2 hc hk hlt hlk
    have hc := HPW2.out.p.o.blk.cell
    have hk := HPW2.out.p.k
    have hlt := HPW2.out.p.o.blk.lt
    have hlk := HPW2.out.p.s
    have hfz := HPW2.out.p.o.blk.free
    dsimp only [ecells, sgb] at hc hk
    go_wp2
    go_ret
    exact ⟨rfl, x, HT.out, HPW2.out.p.go⟩
/-- P51.5. -/
theorem ecomeF (h : ESt w B g x vo vi s.out s.inn) (tie : Tie s x) (hB : B ≤ w.heap.size) (y : Sg) (hs : 0 ≤ y.seq ∧ y.seq < 4294967296) (ha : 0 ≤ y.ack ∧ y.ack < 4294967296) (A : Option Addr) (n c : Nat) (hd : Far w g vo vi A n y.dat) (hnc : n ≤ c) (hcm : c ≤ 9223372036854775807) (hok : s.Ok m) (hm : m ≤ 1000) :
    Calls Try.prog 52 #[.pointer (some ⟨g, 0, none⟩), .agg #[.int .u32 y.seq, .int .u32 y.ack, .int .i64 y.flags, .int .i64 y.window, .slice A n c]] w (ESRet (s.cameE (checkI y.flags y.window n)) w B g vo vi (if checkI y.flags y.window n = 0 then s.cameS y else s)) := by
  obtain ⟨sq, ak, f, wi, ds⟩ := y
  dsimp only at *
  have hln := hd.len
  by_cases he : checkI f wi n = 0
  · rw [if_pos he]
    have hx : Sg.Fine ⟨sq, ak, f, wi, ds⟩ := by
      unfold checkI at he
      split at he
      · cases he
      · split at he
        · cases he
        · exact ⟨hs, ha, by show 0 ≤ f ∧ f ≤ 15; omega, by show 0 ≤ wi ∧ wi ≤ 255; omega, by show ds.length ≤ 32; omega, hd.byt⟩
    by_cases h5 : s.st = 5
    · have e1 : s.cameE (checkI f wi n) = 8 := by unfold Sm.cameE; rw [he, if_neg (by decide), if_pos h5]
      have e2 : s.cameS ⟨sq, ak, f, wi, ds⟩ = s := by unfold Sm.cameS; rw [if_pos h5]
      rw [e1, e2]
      exact ecome_over h tie sq ak f wi A n c he h5
    · have e1 : s.cameE (checkI f wi n) = 0 := by unfold Sm.cameE; rw [he, if_neg (by decide), if_neg h5]
      rw [e1]
      by_cases hr : f / 8 % 2 = 1
      · have e2 : s.cameS ⟨sq, ak, f, wi, ds⟩ = if 1 < s.st then { s with st := 5 } else s := by
          unfold Sm.cameS
          rw [if_neg h5, if_pos (by simp [Sg.rs, hr])]
        rw [e2]
        exact ecome_reset h tie hB sq ak f wi ds hx A n c hd hnc hcm he hok hm h5 hr
      · have hr0 : f / 8 % 2 = 0 := by omega
        have h0 := hok.st0
        have h6 := hok.st5
        rcases (by omega : s.st = 1 ∨ s.st = 2 ∨ s.st = 3 ∨ s.st = 4) with h1 | h1 | h1 | h1
        · exact ecome_on1 h tie hB sq ak f wi ds hx A n c hd hnc hcm he hok hm h5 hr0 h1
        · exact ecome_on2 h tie hB sq ak f wi ds hx A n c hd hnc hcm he hok hm h5 hr0 h1
        · exact ecome_on3 h tie hB sq ak f wi ds hx A n c hd hnc hcm he hok hm h5 hr0 h1
        · exact ecome_on4 h tie hB sq ak f wi ds hx A n c hd hnc hcm he hok hm h5 hr0 h1
  · rw [if_neg he]
    have e1 : s.cameE (checkI f wi n) = checkI f wi n := by unfold Sm.cameE; rw [if_pos he]
    rw [e1]
    exact ecome_bad h tie sq ak f wi A n c he
theorem ecome (h : ESt w B g x vo vi s.out s.inn) (tie : Tie s x) (hB : B ≤ w.heap.size) (y : Sg) (hs : 0 ≤ y.seq ∧ y.seq < 4294967296) (ha : 0 ≤ y.ack ∧ y.ack < 4294967296) (A : Option Addr) (n c : Nat) (hd : RB w B A n y.dat) (hnc : n ≤ c) (hcm : c ≤ 9223372036854775807) (hok : s.Ok m) (hm : m ≤ 1000) :
    Calls Try.prog 52 #[.pointer (some ⟨g, 0, none⟩), .agg #[.int .u32 y.seq, .int .u32 y.ack, .int .i64 y.flags, .int .i64 y.window, .slice A n c]] w (ESRet (s.cameE (checkI y.flags y.window n)) w B g vo vi (if checkI y.flags y.window n = 0 then s.cameS y else s)) :=
  ecomeF h tie hB y hs ha A n c (Far.of hd hB (fun k hk => (Ob2.lt h k hk).1)) hnc hcm hok hm
end
end Go.Proofs.Ythlhjaacjhlkhaa
/- Two lists of segments are held against each other: contracts of sameSeg and sameSegs. -/
namespace Go.Proofs.Ythlhjaacjhlkhaa
open Go.RowKit
set_option maxHeartbeats 400000
set_option linter.unusedVariables false
set_option linter.unusedSimpArgs false
theorem sameSeg_alike (x1 x2 x3 x4 : Int) (A A' : Option Addr) (m c m' c' : Nat) (ds : List Int) (w : World) (h : RB w w.heap.size A m ds) (h' : RB w w.heap.size A' m' ds) :
    Calls Try.prog 23 #[.agg #[.int .u32 x1, .int .u32 x2, .int .i64 x3, .int .i64 x4, .slice A m c], .agg #[.int .u32 x1, .int .u32 x2, .int .i64 x3, .int .i64 x4, .slice A' m' c']] w fun e w' => e = .returned (.bool true) ∧ Below w.heap.size w w' := by
  go_enter Try.func23, Try.ntmps23
  go_wp2_with (go_at_call 18; refine (sameBytes_any _ _ _ _ _ _ ds ds _ _ _ ((h.alloc (Nat.le_refl _) _).alloc (by simp) _) ((h'.alloc (Nat.le_refl _) _).alloc (by simp) _)).mono ?_; rintro e w1 ⟨rfl, rfl⟩)
  go_ret
  exact ⟨ret_bool (by simp), ((Below.refl _ _).alloc (Nat.le_refl _) _).alloc (by simp) _⟩
/-- A list of segments, to be read. -/
def SgR (W : World) (A : Option Addr) (L : List Sg) : Prop := ∃ rs : List Sq, rs.map Sq.sg = L ∧ RS Sq.cl 5 W W.heap.size A L.length rs ∧ ∀ r ∈ rs, RB W W.heap.size r.A r.sg.dat.length r.sg.dat
theorem SgL.rd {W : World} {B n c : Nat} {A : Option Addr} {L : List Sg} (h : SgL W B (.slice A n c) L) : n = L.length ∧ SgR W A L := by
  obtain ⟨rs, e, h1, h2⟩ := h
  have hl : rs.length = L.length := by rw [← e, List.length_map]
  obtain ⟨A2, c2, e2, _⟩ := h1.shape
  injection e2 with e3 e4 e5
  subst e3; subst e4; subst e5
  exact ⟨hl, rs, e, ⟨by rw [← hl]; exact h1.reads, hl⟩, fun r hr => ⟨(h2 r hr).1.reads, (h2 r hr).2⟩⟩
theorem SgR.below {W W' : World} {A : Option Addr} {L : List Sg} (h : SgR W A L) (hb : Below W.heap.size W W') : SgR W' A L := by
  obtain ⟨rs, e, h1, h2⟩ := h
  exact ⟨rs, e, (h1.below' hb (Nat.le_refl _)).more hb.size, fun r hr => ((h2 r hr).below' hb (Nat.le_refl _)).more hb.size⟩
def Sg0 : Sg := ⟨0, 0, 0, 0, []⟩
theorem SgR.at_ {W : World} {A : Option Addr} {L : List Sg} {k : Nat} (h : SgR W A L) (hk : k < L.length) : ∃ b o A5 c5, A = some ⟨b, o, none⟩ ∧ b < W.heap.size ∧ RB W W.heap.size A5 (L.getD k Sg0).dat.length (L.getD k Sg0).dat ∧
    W.cell? ⟨b, o + k * 5 + 0, none⟩ = some (.int .u32 (L.getD k Sg0).seq) ∧ W.cell? ⟨b, o + k * 5 + 1, none⟩ = some (.int .u32 (L.getD k Sg0).ack) ∧ W.cell? ⟨b, o + k * 5 + 2, none⟩ = some (.int .i64 (L.getD k Sg0).flags) ∧ W.cell? ⟨b, o + k * 5 + 3, none⟩ = some (.int .i64 (L.getD k Sg0).window) ∧ W.cell? ⟨b, o + k * 5 + 4, none⟩ = some (.slice A5 (L.getD k Sg0).dat.length c5) := by
  obtain ⟨rs, e, h1, h2⟩ := h
  obtain ⟨b, o, e1, hb, hm, hc⟩ := RS.at_ Sq.cl_len ⟨Sg0, none, 0⟩ h1 hk
  have hkl : k < rs.length := by rw [h1.2]; exact hk
  have es : (rs.getD k ⟨Sg0, none, 0⟩).sg = L.getD k Sg0 := by
    rw [← e]
    simp [List.getD, List.getElem?_eq_getElem hkl]
  rw [← es]
  exact ⟨b, o, _, _, e1, hb, h2 _ hm, hc 0 _ rfl, hc 1 _ rfl, hc 2 _ rfl, hc 3 _ rfl, hc 4 _ rfl⟩
set_option maxHeartbeats 2000000 in
set_option maxRecDepth 100000 in
theorem sameSegs_alike (A A' : Option Addr) (c c' : Nat) (L : List Sg) (w : World) (h : SgR w A L) (h' : SgR w A' L) (hl : L.length ≤ 1000000) (hc : L.length ≤ c) (hc' : L.length ≤ c') :
    Calls Try.prog 49 #[.slice A L.length c, .slice A' L.length c'] w fun e w' => e = .returned (.bool true) ∧ Below w.heap.size w w' := by
  have H1 := Lib.hid (fun k (hk : k < L.length) => h.at_ hk)
  have H2 := Lib.hid (fun k (hk : k < L.length) => h'.at_ hk)
  have HB1 := Lib.hid (fun W (hb : Below w.heap.size w W) => h.below hb)
  have HB2 := Lib.hid (fun W (hb : Below w.heap.size w W) => h'.below hb)
  obtain ⟨n, hn⟩ : ∃ n, L.length = n := ⟨_, rfl⟩
  rw [hn] at hl hc hc' ⊢
  have HN := Lib.hid hn
  clear h h' hn H1 H2
  go_enter Try.func49, Try.ntmps49
  go_wp2
  go_loopw [13] (fun i wr => ∃ k : Nat, k ≤ n ∧ i = .int .i64 k ∧ Below w.heap.size w wr) (fun i _ => n - (intOf i).toNat)
  case atStart => exact ⟨0, by omega, rfl, Below.refl _ _⟩
  case round =>
    obtain ⟨k, hk, rfl, hbw⟩ := hrel
    by_cases hlt : k < n
    · obtain ⟨b, o, A5, c5, rfl, hb, hrb, k0, k1, k2, k3, k4⟩ := (HB1.out _ hbw).at_ (k := k) (by rw [HN.out]; exact hlt)
      obtain ⟨b', o', A6, c6, rfl, hb', hrb', k0', k1', k2', k3', k4'⟩ := (HB2.out _ hbw).at_ (k := k) (by rw [HN.out]; exact hlt)
      have HBW := Lib.hid hbw
      have hk5 : (k : Int) < n := by omega
      generalize L.getD k Sg0 = sg at *
      obtain ⟨x1, x2, x3, x4, ds⟩ := sg
      dsimp only at *
      rw [Nat.add_zero] at k0 k0'
      have HSS := Lib.hid (fun W (hW : Below wr.heap.size wr W) => sameSeg_alike x1 x2 x3 x4 A5 A6 ds.length c5 ds.length c6 ds W ((hrb.below' hW (Nat.le_refl _)).more hW.size) ((hrb'.below' hW (Nat.le_refl _)).more hW.size))
      clear hbw hrb hrb'
      go_wp2_with fail
      refine wp_region_near wr.heap.size (by kernel_rfl) (by kernel_rfl) ?_
      repeat (go_big_quiet_step (first | (go_at_call 23; exact Calls.near (Near.prop _).size (HSS.out _ (Near.prop _)))))
      refine wpQuiet_nil ?_
      intro wz hbz
      have HBZ := Lib.hid hbz
      clear hbz k0 k1 k2 k3 k4 k0' k1' k2' k3' k4'
      go_wp2
      go_roundw
      case rel => exact ⟨k + 1, by omega, by go_num, HBW.out.trans (HBZ.out.mono HBW.out.size)⟩
      case measure => simp [intOf]; omega
    · obtain rfl : k = n := by omega
      have HBW := Lib.hid hbw
      clear hbw
      go_wp2
      go_ret
      exact ⟨rfl, HBW.out⟩
end Go.Proofs.Ythlhjaacjhlkhaa
/- Both ends side by side with the act at hand: the program's and the reference's. -/
namespace Go.Proofs.Ythlhjaacjhlkhaa
open Go.RowKit
set_option maxHeartbeats 400000
set_option linter.unusedVariables false
set_option linter.unusedSimpArgs false
/-- What an end of a stream is asked. -/
structure Sact where
  k : Int
  n : Int
  a : Option Addr
  m : Nat
  c : Nat
  ds : List Int
  seq : Int
  ack : Int
  flags : Int
  window : Int
  A : Option Addr
  n2 : Nat
  c2 : Nat
  dat : List Int
namespace Sact
def zero : Sact := ⟨0, 0, none, 0, 0, [], 0, 0, 0, 0, none, 0, 0, []⟩
def cells (x : Sact) : List Value := [.int .i64 x.k, .int .i64 x.n, .slice x.a x.m x.c, .int .u32 x.seq, .int .u32 x.ack, .int .i64 x.flags, .int .i64 x.window, .slice x.A x.n2 x.c2]
structure Fine (x : Sact) (w : World) (B : Nat) : Prop where
  ds : RB w B x.a x.m x.ds
  mc : x.m ≤ x.c ∧ x.c ≤ 9223372036854775807
  dat : RB w B x.A x.n2 x.dat
  nc : x.n2 ≤ x.c2 ∧ x.c2 ≤ 9223372036854775807
  seq : 0 ≤ x.seq ∧ x.seq < 4294967296
  ack : 0 ≤ x.ack ∧ x.ack < 4294967296
  flags : -9223372036854775808 ≤ x.flags ∧ x.flags ≤ 9223372036854775807
  window : -9223372036854775808 ≤ x.window ∧ x.window ≤ 9223372036854775807
end Sact
def RSa (w : World) (B : Nat) (A : Option Addr) (n : Nat) (ps : List Sact) : Prop := RS Sact.cells 8 w B A n ps ∧ ∀ r ∈ ps, r.Fine w B
theorem Sact.Fine.below {w w' : World} {B B' : Nat} {x : Sact} (h : x.Fine w B) (hb : Below B' w w') (hB : B ≤ B') : x.Fine w' B :=
  ⟨h.ds.below' hb hB, h.mc, h.dat.below' hb hB, h.nc, h.seq, h.ack, h.flags, h.window⟩
theorem RSa.below' {w w' : World} {B B' n : Nat} {A : Option Addr} {ps : List Sact} (h : RSa w B A n ps) (hb : Below B' w w') (hB : B ≤ B') : RSa w' B A n ps := ⟨h.1.below' hb hB, fun r hr => (h.2 r hr).below hb hB⟩
theorem RSa.at_ {w : World} {B n k : Nat} {A : Option Addr} {ps : List Sact} (h : RSa w B A n ps) (hk : k < n) : ∃ b o, A = some ⟨b, o, none⟩ ∧ b < B ∧ w.cell? ⟨b, o + k * 8, none⟩ = some (.int .i64 (ps.getD k .zero).k) ∧ w.cell? ⟨b, o + k * 8 + 1, none⟩ = some (.int .i64 (ps.getD k .zero).n) ∧ w.cell? ⟨b, o + k * 8 + 2, none⟩ = some (.slice (ps.getD k .zero).a (ps.getD k .zero).m (ps.getD k .zero).c) ∧
    w.cell? ⟨b, o + k * 8 + 3, none⟩ = some (.int .u32 (ps.getD k .zero).seq) ∧ w.cell? ⟨b, o + k * 8 + 4, none⟩ = some (.int .u32 (ps.getD k .zero).ack) ∧ w.cell? ⟨b, o + k * 8 + 5, none⟩ = some (.int .i64 (ps.getD k .zero).flags) ∧ w.cell? ⟨b, o + k * 8 + 6, none⟩ = some (.int .i64 (ps.getD k .zero).window) ∧ w.cell? ⟨b, o + k * 8 + 7, none⟩ = some (.slice (ps.getD k .zero).A (ps.getD k .zero).n2 (ps.getD k .zero).c2) ∧ (ps.getD k .zero).Fine w B := by
  obtain ⟨b, o, e, hb, hm, hc⟩ := RS.at_ (cl := Sact.cells) (s := 8) (fun _ => rfl) Sact.zero h.1 hk
  exact ⟨b, o, e, hb, hc 0 _ rfl, hc 1 _ rfl, hc 2 _ rfl, hc 3 _ rfl, hc 4 _ rfl, hc 5 _ rfl, hc 6 _ rfl, hc 7 _ rfl, h.2 _ hm⟩
/-- Both ends. -/
structure SBo (W w : World) (g q : Nat) (s : Sm) (x : EC) (vo vi vp vj : Value) : Prop where
  tie : Tie s x
  e : ESt w W.heap.size g x vo vi s.out s.inn
  r : RSt w W.heap.size q s vp vj
  dis : ∀ k, Ob2F g vo vi k → ¬ Ob2F q vp vj k
  bel : Below W.heap.size W w
def SBoE (W w : World) (g q m : Nat) : Prop := ∃ s x vo vi vp vj, SBo W w g q s x vo vi vp vj ∧ s.Ok m ∧ s.Fn
/-- Both ends; the reference may be one step behind; block a8 holds the act. -/
structure SMid (W w : World) (g q : Nat) (s1 s2 : Sm) (x : EC) (vo vi vp vj : Value) (a8 : Nat) (cs : Array Value) : Prop where
  tie : Tie s1 x
  e : ESt w W.heap.size g x vo vi s1.out s1.inn
  r : RSt w W.heap.size q s2 vp vj
  dis : ∀ k, Ob2F g vo vi k → ¬ Ob2F q vp vj k
  bel : Below W.heap.size W w
  act : Blk w a8 cs 70
  ne : ¬ Ob2F g vo vi a8
  nr : ¬ Ob2F q vp vj a8
  low : W.heap.size ≤ a8
namespace SMid
variable {W w w' : World} {g q a8 : Nat} {s s1 s2 s' : Sm} {x x' : EC} {vo vi vp vj : Value} {cs : Array Value}
theorem grow (h : SMid W w g q s1 s2 x vo vi vp vj a8 cs) (hb : Below w.heap.size w w') : SMid W w' g q s1 s2 x vo vi vp vj a8 cs :=
  ⟨h.tie, Ob2.grow h.e hb, Ob2.grow h.r hb, h.dis, h.bel.trans (hb.mono h.bel.size), h.act.fr (Fr.of_grow hb) id, h.ne, h.nr, h.low⟩
theorem lay (h : SBo W w g q s x vo vi vp vj) (cs : Array Value) : SMid W (w.alloc (.cells cs 70)) g q s s x vo vi vp vj w.heap.size cs := by
  have hb : Below w.heap.size w (w.alloc (.cells cs 70)) := (Below.refl _ w).alloc (Nat.le_refl _) (.cells cs 70)
  refine ⟨h.tie, Ob2.grow h.e hb, Ob2.grow h.r hb, h.dis, h.bel.trans (hb.mono h.bel.size), Blk.new w cs 70, fun e => ?_, fun e => ?_, h.bel.size⟩
  · have := (Ob2.lt h.e _ e).2; omega
  · have := (Ob2.lt h.r _ e).2; omega
theorem bo (h : SMid W w g q s s x vo vi vp vj a8 cs) : SBo W w g q s x vo vi vp vj := ⟨h.tie, h.e, h.r, h.dis, h.bel⟩
/-- The program goes on. -/
theorem real (h : SMid W w g q s1 s2 x vo vi vp vj a8 cs) (t : Tie s' x') (hg : EGo w W.heap.size g vo vi x' s'.out s'.inn w') : ∃ vo' vi', SMid W w' g q s' s2 x' vo' vi' vp vj a8 cs := by
  obtain ⟨v1, v2, m, f, o⟩ := hg
  refine ⟨v1, v2, t, m, Ob2.keep h.r f (fun k hq hr => h.dis k hr hq), fun k hk hq => ?_, h.bel.trans (f.below h.bel.size (fun k hk => (Ob2.lt h.e k hk).1)), h.act.fr f h.ne, fun e => ?_, h.nr, h.low⟩
  · rcases o k hk with e | e
    · exact h.dis k e hq
    · have := (Ob2.lt h.r k hq).2; omega
  · rcases o _ e with e | e
    · exact h.ne e
    · have := h.act.lt; omega
/-- The reference goes on. -/
theorem side (h : SMid W w g q s1 s2 x vo vi vp vj a8 cs) (hq : RSGo w W.heap.size q vp vj s' w') : ∃ vp' vj', SMid W w' g q s1 s' x vo vi vp' vj' a8 cs := by
  obtain ⟨v1, v2, m, f, o⟩ := hq
  refine ⟨v1, v2, h.tie, Ob2.keep h.e f (fun k hk hq => h.dis k hk hq), m, fun k hk hq => ?_, h.bel.trans (f.below h.bel.size (fun k hk => (Ob2.lt h.r k hk).1)), h.act.fr f h.nr, h.ne, fun e => ?_, h.low⟩
  · rcases o k hq with e | e
    · exact h.dis k hk e
    · have := (Ob2.lt h.e k hk).2; omega
  · rcases o _ e with e | e
    · exact h.nr e
    · have := h.act.lt; omega
theorem ltR (h : SMid W w g q s1 s2 x vo vi vp vj a8 cs) : ∀ k, Ob2F q vp vj k → k < w.heap.size := fun k hk => (Ob2.lt h.r k hk).2
end SMid
def SMidE (W w : World) (g q a8 : Nat) (cs : Array Value) (m : Nat) : Prop := ∃ s x vo vi vp vj, SMid W w g q s s x vo vi vp vj a8 cs ∧ s.Ok m ∧ s.Fn
/-- Bytes in new blocks last while the reference goes on. -/
theorem RB.fresh {w w' : World} {B n c : Nat} {A : Option Addr} {xs : List Int} {S : Nat → Prop} (h : RB w B A n xs) (hB : B ≤ w.heap.size) (hf : Fr S w w') (hn : ∀ j, (Value.slice A n c).ownBlock = some j → ¬ S j) : RB w' B A n xs := by
  refine ⟨⟨h.1.1, fun h0 => ?_⟩, h.2⟩
  obtain ⟨b, o, e, hb, hc⟩ := h.1.2 h0
  subst e
  exact ⟨b, o, rfl, hb, fun j u hu => (hf.cell (p := ⟨b, o + j, none⟩) (Nat.lt_of_lt_of_le hb hB) (hn b rfl)).trans (hc j u hu)⟩
/-! the start -/
structure SIni (W w : World) (g q : Nat) : Prop where
  e : ESt w W.heap.size g ex0 (.slice none 0 0) (.slice none 0 0) [] []
  r : RSt w W.heap.size q sm0 (.slice none 0 0) (.slice none 0 0)
  bel : Below W.heap.size W w
  ne : g ≠ q
theorem sini (W : World) : SIni W ((W.alloc (.cells (ecells ex0 (.slice none 0 0) (.slice none 0 0)) 128)).alloc (.cells (rcells sm0 (.slice none 0 0) (.slice none 0 0)) 66)) W.heap.size (W.heap.size + 1) := by
  have hb1 : Below W.heap.size W (W.alloc (.cells (ecells ex0 (.slice none 0 0) (.slice none 0 0)) 128)) := (Below.refl _ _).alloc (Nat.le_refl _) _
  have h1 := ob0 W W.heap.size 128 (ecells ex0) (Nat.le_refl _)
  have hb2 : Below (W.alloc (.cells (ecells ex0 (.slice none 0 0) (.slice none 0 0)) 128)).heap.size _ ((W.alloc (.cells (ecells ex0 (.slice none 0 0) (.slice none 0 0)) 128)).alloc (.cells (rcells sm0 (.slice none 0 0) (.slice none 0 0)) 66)) := (Below.refl _ _).alloc (Nat.le_refl _) _
  have h2 := ob0 (W.alloc (.cells (ecells ex0 (.slice none 0 0) (.slice none 0 0)) 128)) W.heap.size 66 (rcells sm0) (by simp)
  refine ⟨Ob2.grow h1 hb2, ?_, hb1.trans (hb2.mono (by simp)), by omega⟩
  have e : (W.alloc (.cells (ecells ex0 (.slice none 0 0) (.slice none 0 0)) 128)).heap.size = W.heap.size + 1 := by simp
  rw [e] at h2
  exact h2
theorem nilF {g k : Nat} (h : Ob2F g (.slice none 0 0) (.slice none 0 0) k) : k = g := by
  rcases h with h | h | h
  · exact h
  · simp [Value.ownBlock] at h
  · simp [Value.ownBlock] at h
theorem SIni.begun {W w w3 w4 : World} {g q : Nat} {st iss : Int} (h : SIni W w g q) (hi : 0 ≤ iss ∧ iss < 4294967296) (hs : st = 1 ∨ st = 2) (e3 : ESt w3 W.heap.size g (exB st iss) (.slice none 0 0) (.slice none 0 0) [] []) (hf : Fr (fun k => k = g) w w3)
    (hr : RSGo w3 W.heap.size q (.slice none 0 0) (.slice none 0 0) (Sm.start st iss) w4) : ∃ vp vj, SBo W w4 g q (Sm.start st iss) (exB st iss) (.slice none 0 0) (.slice none 0 0) vp vj := by
  obtain ⟨v1, v2, m, f, o⟩ := hr
  have hlow : W.heap.size ≤ g := (Ob2.lt h.e g (.inl rfl)).1
  have hlow2 : W.heap.size ≤ q := (Ob2.lt h.r q (.inl rfl)).1
  have e4 : ESt w4 W.heap.size g (exB st iss) (.slice none 0 0) (.slice none 0 0) [] [] := Ob2.keep e3 f (fun k hk hq => by have h1 := nilF hk; have h2 := nilF hq; exact h.ne (h1.symm.trans h2))
  refine ⟨v1, v2, Tie.start st iss hi hs, e4, m, fun k hk hq => ?_, (h.bel.trans (hf.below h.bel.size (fun k hk => by have hk : k = g := hk; omega))).trans (f.below (Nat.le_trans h.bel.size hf.size) (fun k hk => by have := nilF hk; omega))⟩
  have h1 := nilF hk
  rcases o k hq with h2 | h2
  · exact h.ne (h1.symm.trans (nilF h2))
  · have := (Ob2.lt e3 k hk).2; omega
/-! the calls of the drawn way -/
def ComeM (W : World) (g q : Nat) (s1 s2 : Sm) (vp vj : Value) (a8 : Nat) (cs : Array Value) (er : Int) (u : Value) (w' : World) : Prop := u = .int .i64 er ∧ ∃ x vo vi, SMid W w' g q s1 s2 x vo vi vp vj a8 cs
def ComeN (W : World) (g q : Nat) (s1 s2 : Sm) (a8 : Nat) (cs : Array Value) (er : Int) (u : Value) (w' : World) : Prop := u = .int .i64 er ∧ ∃ x vo vi vp vj, SMid W w' g q s1 s2 x vo vi vp vj a8 cs
section
variable {W w : World} {g q a8 m : Nat} {s s1 : Sm} {x : EC} {vo vi vp vj : Value} {cs : Array Value}
theorem come_mid (h : SMid W w g q s s x vo vi vp vj a8 cs) (hok : s.Ok m) (hm : m ≤ 1000) (y : Sg) (hs : 0 ≤ y.seq ∧ y.seq < 4294967296) (ha : 0 ≤ y.ack ∧ y.ack < 4294967296) (A : Option Addr) (n c : Nat) (hd : RB w W.heap.size A n y.dat) (hnc : n ≤ c) (hcm : c ≤ 9223372036854775807) :
    Calls Try.prog 52 #[.pointer (some ⟨g, 0, none⟩), .agg #[.int .u32 y.seq, .int .u32 y.ack, .int .i64 y.flags, .int .i64 y.window, .slice A n c]] w fun e' w' => ∃ u, e' = .returned u ∧ ComeM W g q (if checkI y.flags y.window n = 0 then s.cameS y else s) s vp vj a8 cs (s.cameE (checkI y.flags y.window n)) u w' :=
  (ecome h.e h.tie h.bel.size y hs ha A n c hd hnc hcm hok hm).mono (by
    rintro e' w' ⟨rfl, x', t, hG⟩
    obtain ⟨v1, v2, hM⟩ := h.real t hG
    exact ⟨_, rfl, rfl, _, _, _, hM⟩)
theorem came_mid (h : SMid W w g q s1 s x vo vi vp vj a8 cs) (hok : s.Ok m) (hm : m ≤ 1000) (y : Sg) (hs : 0 ≤ y.seq ∧ y.seq < 4294967296) (ha : 0 ≤ y.ack ∧ y.ack < 4294967296) (hf : -9223372036854775808 ≤ y.flags ∧ y.flags ≤ 9223372036854775807) (hwi : -9223372036854775808 ≤ y.window ∧ y.window ≤ 9223372036854775807) (A : Option Addr) (n c : Nat) (hd : RB w W.heap.size A n y.dat) (hnc : n ≤ c) (hcm : c ≤ 9223372036854775807) :
    Calls Try.prog 53 #[.pointer (some ⟨q, 0, none⟩), .agg #[.int .u32 y.seq, .int .u32 y.ack, .int .i64 y.flags, .int .i64 y.window, .slice A n c]] w fun e' w' => ∃ u, e' = .returned u ∧ ComeN W g q s1 (if checkI y.flags y.window n = 0 then s.cameS y else s) a8 cs (s.cameE (checkI y.flags y.window n)) u w' :=
  (rcame h.r h.bel.size y hs ha hf hwi A n c hd hnc hcm hok hm).mono (by
    rintro e' w' ⟨rfl, hQ⟩
    obtain ⟨v1, v2, hM⟩ := h.side hQ
    exact ⟨_, rfl, rfl, _, _, _, _, _, hM⟩)
theorem came_ok (hok : s.Ok m) (hfn : s.Fn) (y : Sg) (hs : 0 ≤ y.seq ∧ y.seq < 4294967296) (ha : 0 ≤ y.ack ∧ y.ack < 4294967296) {n : Nat} (hn : y.dat.length = n) (hb : Byt y.dat) : (if checkI y.flags y.window n = 0 then s.cameS y else s).Ok (m + 1) ∧ (if checkI y.flags y.window n = 0 then s.cameS y else s).Fn := by
  by_cases he : checkI y.flags y.window n = 0
  · rw [if_pos he]
    have hx : y.Fine := by
      unfold checkI at he
      split at he
      · cases he
      · split at he
        · cases he
        · exact ⟨hs, ha, by omega, by omega, by omega, hb⟩
    exact ⟨hok.came hx, hfn.came y⟩
  · rw [if_neg he]
    exact ⟨hok.more, hfn⟩
theorem Sm.Fn.outs (hok : s.Ok m) (hfn : s.Fn) : s.outsO.2.Fn := by
  have hloop : ∀ (lim f : Nat) (s1 : Sm), s1.Fn → s1.st = 4 → s1.Ok m → lim ≤ s1.said.length → (Sm.loopO lim f s1).2.Fn ∧ (Sm.loopO lim f s1).2.Ok m ∧ (Sm.loopO lim f s1).2.st = 4 ∧ (Sm.loopO lim f s1).2.said = s1.said := by
    intro lim f
    induction f with
    | zero => intro s1 h1 h4 h2 h3; exact ⟨h1, h2, h4, rfl⟩
    | succ f ih =>
      intro s1 h1 h4 h2 h3
      unfold Sm.loopO
      split
      · rename_i hlt
        have hl := h2.late h4
        have hu := h2.un
        have := ih (s1.sayS (min 32 (lim - (s1.nxt - 1)))) (h1.say (fun _ => by omega)) h4 (h2.say (by omega) (fun h => by omega)) h3
        exact this
      · exact ⟨h1, h2, h4, rfl⟩
  unfold Sm.outsO
  split
  · rename_i h4
    obtain ⟨a1, a2, a3, a4⟩ := hloop s.limitN 64 s hfn h4 hok s.limit_le
    show (Sm.dueO (Sm.finO (Sm.loopO s.limitN 64 s).2).2).2.Fn
    have b1 : (Sm.finO (Sm.loopO s.limitN 64 s).2).2.Fn ∧ (Sm.finO (Sm.loopO s.limitN 64 s).2).2.Ok m := by
      unfold Sm.finO
      split
      · rename_i h5
        have hl := a2.late a3
        have hu := a2.un
        exact ⟨a1.say (fun h6 => by rw [h5.1] at h6; cases h6), a2.say (by omega) (fun h => by omega)⟩
      · exact ⟨a1, a2⟩
    unfold Sm.dueO
    split
    · refine b1.1.say (fun h6 => ?_)
      have := b1.1 h6
      have := b1.2.nt
      omega
    · exact b1.1
  · unfold Sm.synO
    split
    · rename_i h5
      exact hfn.say (fun _ => by omega)
    · exact hfn
end
end Go.Proofs.Ythlhjaacjhlkhaa
/- A line between two ends: what is sent is read as it was said; the plain law of a line. -/
namespace Go.Proofs.Ythlhjaacjhlkhaa
open Go.RowKit
set_option linter.unusedVariables false
set_option linter.unusedSimpArgs false
theorem enc_len (x1 x2 f wi : Int) (ds : List Int) : (encI x1 x2 f wi ds).length = 14 + ds.length := by
  simp [encI, headI, fourI]; omega
/-- What Encode wrote, Decode reads. -/
theorem dec_enc {x1 x2 f wi : Int} {ds : List Int} (hx1 : 0 ≤ x1 ∧ x1 < 4294967296) (hx2 : 0 ≤ x2 ∧ x2 < 4294967296) (h3 : 0 ≤ f ∧ f ≤ 15) (h4 : 0 ≤ wi ∧ wi ≤ 255) (hn : ds.length ≤ 32) : decI (encI x1 x2 f wi ds) = ⟨x1, x2, f, wi, ds, 0⟩ := by
  have hl := enc_len x1 x2 f wi ds
  have hp : plainI (encI x1 x2 f wi ds) = headI x1 x2 f wi ds.length ++ [0, 0] ++ ds := rfl
  have h8 : (encI x1 x2 f wi ds).getD 8 0 = f := rfl
  have h9 : (encI x1 x2 f wi ds).getD 9 0 = wi := rfl
  have h10 : (encI x1 x2 f wi ds).getD 10 0 = (ds.length : Int) := rfl
  have h11 : (encI x1 x2 f wi ds).getD 11 0 = 0 := rfl
  have h12 : (encI x1 x2 f wi ds).getD 12 0 = sumI (headI x1 x2 f wi ds.length ++ [0, 0] ++ ds) / 256 := rfl
  have h13 : (encI x1 x2 f wi ds).getD 13 0 = sumI (headI x1 x2 f wi ds.length ++ [0, 0] ++ ds) % 256 := rfl
  have hd : (encI x1 x2 f wi ds).drop 14 = ds := rfl
  have hw1 : wordI (encI x1 x2 f wi ds) = x1 := by
    show x1 / 16777216 * 16777216 + x1 / 65536 % 256 * 65536 + x1 / 256 % 256 * 256 + x1 % 256 = x1
    omega
  have hw2 : wordI ((encI x1 x2 f wi ds).drop 4) = x2 := by
    show x2 / 16777216 * 16777216 + x2 / 65536 % 256 * 65536 + x2 / 256 % 256 * 256 + x2 % 256 = x2
    omega
  have hc : checkI f wi (14 + ds.length - 14) = 0 := by
    unfold checkI
    rw [if_neg (by omega), if_neg (by omega)]
  unfold decI
  rw [hl, h10, h11, h12, h13, h8, h9, hp, hd, hw1, hw2, hc]
  rw [if_neg (by omega), if_neg (by omega), if_neg (by rw [not_or]; exact ⟨by omega, fun e => e rfl⟩), if_neg (by omega), if_neg (by simp)]
end Go.Proofs.Ythlhjaacjhlkhaa
/- A line between two ends: the plain law. -/
namespace Go.Proofs.Ythlhjaacjhlkhaa
set_option maxHeartbeats 400000
set_option linter.unusedVariables false
set_option linter.unusedSimpArgs false
namespace Sm
variable {s : Sm} {m : Nat}
/-- What an end says is fit to be sent. -/
theorem say_fine (h : Ok s m) {f : Int} {k : Nat} (hf : 0 ≤ f ∧ f ≤ 13) (hk : k ≤ 32) : (s.saySg f k).Fine := by
  have hr := h.rroom
  have hl := s.inn_len
  refine ⟨?_, ?_, ?_, ?_, ?_, byt_take (byt_drop h.bs _) _⟩
  · show 0 ≤ s.seqI s.nxt ∧ s.seqI s.nxt < 4294967296
    unfold seqI; omega
  · show 0 ≤ (if 2 < s.st then s.awI else 0) ∧ (if 2 < s.st then s.awI else 0) < 4294967296
    unfold awI; split <;> omega
  · show 0 ≤ (if 2 < s.st then f + 2 else f) ∧ (if 2 < s.st then f + 2 else f) ≤ 15
    split <;> omega
  · show 0 ≤ s.winI ∧ s.winI ≤ 255
    unfold winI; omega
  · show ((s.said.drop (s.nxt - 1)).take k).length ≤ 32
    rw [List.length_take]; omega
theorem loop_fine {lim : Nat} (hlim : lim ≤ s.said.length) : ∀ (f : Nat) {s' : Sm}, Ok s' m → s'.said = s.said → s'.st = 4 → ∀ x ∈ (loopO lim f s').1, x.Fine
  | 0, s', h, e, h4 => fun x hx => by cases hx
  | f + 1, s', h, e, h4 => by
    unfold loopO
    split
    · rename_i hlt
      have h1 := h.late h4
      have h2 := h.un
      intro x hx
      rcases List.mem_cons.1 hx with hx | hx
      · rw [hx]; exact say_fine h (by omega) (by omega)
      · exact loop_fine hlim f (h.say (p := min 32 (lim - (s'.nxt - 1))) (by rw [e]; omega) (by omega)) e h4 x hx
    · intro x hx; cases hx
theorem outs_fine (h : Ok s m) : ∀ x ∈ (outsO s).1, x.Fine := by
  unfold outsO
  split
  · rename_i h4
    obtain ⟨h1, h2, h3⟩ := Ok.loop (limit_le s) 64 h rfl h4
    have hf : Ok (finO (loopO s.limitN 64 s).2).2 m := by
      unfold finO
      split
      · rename_i h5
        have := h5.2
        rw [h2] at this
        have hl := h1.late h3
        have hu := h1.un
        exact h1.say (p := 1) (by rw [h2]; omega) (by omega)
      · exact h1
    intro x hx
    have hx : x ∈ (loopO s.limitN 64 s).1 ++ (finO (loopO s.limitN 64 s).2).1 ++ (dueO (finO (loopO s.limitN 64 s).2).2).1 := hx
    rcases List.mem_append.1 hx with hx | hx
    · rcases List.mem_append.1 hx with hx | hx
      · exact loop_fine (limit_le s) 64 h rfl h4 x hx
      · unfold finO at hx
        split at hx
        · rw [List.mem_singleton.1 hx]; exact say_fine h1 (by omega) (by omega)
        · cases hx
    · unfold dueO at hx
      split at hx
      · rw [List.mem_singleton.1 hx]; exact say_fine hf (by omega) (by omega)
      · cases hx
  · rename_i h4
    unfold synO
    split
    · intro x hx
      rw [List.mem_singleton.1 hx]; exact say_fine h (by omega) (by omega)
    · intro x hx; cases hx
end Sm
/-- A deed. -/
structure Dd where
  k : Int
  e : Int
  n : Int
  ds : List Int
/-- Both ends and what is on its way. -/
structure Sys where
  a : Sm
  b : Sm
  way : List (Nat × Sg)
namespace Sys
def putW (way : List (Nat × Sg)) (who : Nat) (xs : List Sg) : List (Nat × Sg) := (way ++ xs.map fun x => (who, x)).take 64
def send (y : Sys) : Sys := ⟨y.a.outsO.2, y.b.outsO.2, putW (putW y.way 1 y.a.outsO.1) 0 y.b.outsO.1⟩
/-- One end turns. -/
def onE (y : Sys) (e : Nat) (f : Sm → Sm) : Sys := if e = 0 then { y with a := f y.a } else { y with b := f y.b }
def ownF (d : Dd) (s : Sm) : Sm := if d.k = 1 then s.givenS d.ds else if d.k = 2 then s.takenS d.n else s.closedS
def wayD (y : Sys) (k : Int) (i : Nat) (x : Nat × Sg) : Sys :=
  if k = 6 then (if y.way.length < 64 then { y with way := y.way ++ [x] } else y)
  else { (if k = 4 then onE y x.1 (fun s => s.cameS x.2) else y) with way := y.way.eraseIdx i }
def deed (y : Sys) (d : Dd) : Sys :=
  if 1 ≤ d.k ∧ d.k ≤ 3 then (if d.e = 0 ∨ d.e = 1 then onE y d.e.toNat (ownF d) else y)
  else if 4 ≤ d.k ∧ d.k ≤ 6 then (if 0 ≤ d.n then (match y.way[d.n.toNat]? with | some x => wayD y d.k d.n.toNat x | none => y) else y)
  else if d.k = 7 then ⟨y.a.tickedS, y.b.tickedS, y.way⟩ else y
def start (a b : Int) : Sys := ⟨Sm.start 2 a, Sm.start 1 b, []⟩
/-- All deeds, one after the other. -/
def run (a b : Int) (L : List Dd) : Sys := L.foldl (fun y d => send (deed y d)) (send (start a b))
structure Ok (y : Sys) (m : Nat) : Prop where
  a : y.a.Ok m
  b : y.b.Ok m
  way : ∀ p ∈ y.way, p.1 ≤ 1 ∧ p.2.Fine
  len : y.way.length ≤ 64
theorem putW_ok {way : List (Nat × Sg)} {who : Nat} {xs : List Sg} (h : ∀ p ∈ way, p.1 ≤ 1 ∧ p.2.Fine) (ht : who ≤ 1) (hx : ∀ x ∈ xs, x.Fine) : ∀ p ∈ putW way who xs, p.1 ≤ 1 ∧ p.2.Fine := fun p hp => by
  rcases List.mem_append.1 (List.mem_of_mem_take hp) with e | e
  · exact h p e
  · obtain ⟨x, hx', rfl⟩ := List.mem_map.1 e
    exact ⟨ht, hx x hx'⟩
theorem putW_len (way : List (Nat × Sg)) (who : Nat) (xs : List Sg) : (putW way who xs).length ≤ 64 := by
  unfold putW
  rw [List.length_take]; omega
theorem Ok.send {y : Sys} {m : Nat} (h : Ok y m) : Ok y.send (m + 1) :=
  ⟨h.a.outs, h.b.outs, putW_ok (putW_ok h.way (by omega) (Sm.outs_fine h.a)) (by omega) (Sm.outs_fine h.b), putW_len _ _ _⟩
theorem Ok.more {y : Sys} {m : Nat} (h : Ok y m) : Ok y (m + 1) := ⟨h.a.more, h.b.more, h.way, h.len⟩
theorem Ok.onE {y : Sys} {m : Nat} (h : Ok y m) (e : Nat) {f : Sm → Sm} (hf : ∀ s : Sm, s.Ok m → (f s).Ok (m + 1)) : Ok (onE y e f) (m + 1) := by
  unfold Sys.onE
  split
  · exact ⟨hf _ h.a, h.b.more, h.way, h.len⟩
  · exact ⟨h.a.more, hf _ h.b, h.way, h.len⟩
theorem onE_way (y : Sys) (e : Nat) (f : Sm → Sm) : (onE y e f).way = y.way := by unfold onE; split <;> rfl
theorem Ok.deed {y : Sys} {m : Nat} (h : Ok y m) {d : Dd} (hd : Byt d.ds) : Ok (deed y d) (m + 1) := by
  unfold Sys.deed
  split
  · split
    · refine h.onE _ fun s hs => ?_
      unfold ownF
      split
      · exact hs.given hd
      · split
        · exact hs.taken _
        · exact hs.closed
    · exact h.more
  · split
    · split
      · split
        · rename_i x hx
          have hm : x ∈ y.way := List.mem_of_getElem? hx
          have hxf := h.way x hm
          unfold wayD
          split
          · split
            · refine ⟨h.a.more, h.b.more, fun p hp => ?_, ?_⟩
              · rcases List.mem_append.1 hp with e | e
                · exact h.way p e
                · rw [List.mem_singleton.1 e]; exact hxf
              · show (y.way ++ [x]).length ≤ 64
                rw [List.length_append]; simp; omega
            · exact h.more
          · have key : Ok (if d.k = 4 then Sys.onE y x.1 (fun s => s.cameS x.2) else y) (m + 1) := by
              split
              · exact h.onE _ fun s hs => hs.came hxf.2
              · exact h.more
            refine ⟨key.a, key.b, fun p hp => h.way p (List.mem_of_mem_eraseIdx hp), ?_⟩
            show (y.way.eraseIdx d.n.toNat).length ≤ 64
            have := List.length_eraseIdx_le (l := y.way) (i := d.n.toNat)
            have := h.len
            omega
        · exact h.more
      · exact h.more
    · split
      · exact ⟨h.a.ticked, h.b.ticked, h.way, h.len⟩
      · exact h.more
theorem start_ok {a b : Int} (ha : 0 ≤ a ∧ a < 4294967296) (hb : 0 ≤ b ∧ b < 4294967296) : Ok (start a b) 0 :=
  ⟨Sm.start_ok (.inr rfl) ha, Sm.start_ok (.inl rfl) hb, (fun p hp => by cases hp), by simp [start]⟩
/-- After k deeds. -/
def runK (a b : Int) (L : List Dd) (k : Nat) : Sys := run a b (L.take k)
theorem runK_succ {a b : Int} {L : List Dd} {k : Nat} (hk : k < L.length) : runK a b L (k + 1) = send (deed (runK a b L k) L[k]) := by
  unfold runK run
  rw [List.take_succ_eq_append_getElem hk, List.foldl_append]
  rfl
theorem runK_ok {a b : Int} {L : List Dd} (ha : 0 ≤ a ∧ a < 4294967296) (hb : 0 ≤ b ∧ b < 4294967296) (hL : ∀ d ∈ L, Byt d.ds) : ∀ k, k ≤ L.length → Ok (runK a b L k) (2 * k + 1)
  | 0, _ => (start_ok ha hb).send
  | k + 1, hk => by
    have h := runK_ok ha hb hL k (by omega)
    rw [runK_succ (by omega)]
    have := (h.deed (hL _ (List.getElem_mem (by omega : k < L.length)))).send
    exact this
end Sys
end Go.Proofs.Ythlhjaacjhlkhaa
/- Contracts of slices.Clone and slices.Delete of one at letters on their way. -/
namespace Go.Proofs.Ythlhjaacjhlkhaa
open Go.RowKit
set_option maxHeartbeats 400000
set_option linter.unusedVariables false
set_option linter.unusedSimpArgs false
theorem pletinfo : (Try.prog.info? 171).map (fun i => (i.zero, i.size, i.bytes)) = some (some (.agg #[.int .i64 0, .slice none 0 0]), 2, 32) := by kernel_rfl
def LetC (w : World) (n : Nat) (xs : List Value) (e : Ending) (w' : World) : Prop := ∃ v, e = .returned v ∧ Row w' w.heap.size 171 2 v n xs ∧ Below w.heap.size w w'
set_option maxRecDepth 100000 in
theorem letClone (A : Option Addr) (n c : Nat) (xs : List Value) (w : World) (B : Nat) (h : Reads w B 2 A n xs) (hone : ∀ u ∈ xs, u.oneCell' = true) (hB : B ≤ w.heap.size) (hn : n ≤ 1000000) :
    Calls Try.prog 118 #[.slice A n c] w (LetC w n xs) := by
  obtain ⟨i0, hi, hz0, hz1, hz2⟩ := info_parts pletinfo
  have hnl := fun (w : World) (a : Option Addr) (n c n' c' : Nat) => Lib.run_eql_slice_nil (P := Try.prog) w 158 171 a n c n' c' Try.underlying158
  rcases A with _ | ⟨b, o, sp⟩
  · have h0 : n = 0 := by
      rcases Nat.eq_zero_or_pos n with h0 | h0
      · exact h0
      · obtain ⟨_, _, e, _⟩ := h.2 h0; cases e
    subst h0
    have hx : xs = [] := List.eq_nil_of_length_eq_zero (by have := h.1; omega)
    subst hx
    clear h
    go_enter Try.func118, Try.ntmps118
    go_wp2
    go_ret
    exact ⟨_, rfl, Row.nil _ _ _ _, Below.refl _ _⟩
  · have HH := Lib.hid h
    have HO := Lib.hid hone
    clear h hone
    go_enter Try.func118, Try.ntmps118
    go_wp2_with (at_builtin; refine wpList_append_row _ rfl (.tmp 5) (.tmp 6) 158 rfl w.heap.size 171 i0 (.agg #[.int .i64 0, .slice none 0 0]) 2 32 Try.underlying158 hi hz0 hz1 hz2 rfl (by decide) (.slice (some ⟨w.heap.size, 0, none⟩) 0 0) 0 [] rfl ?c1 B (some ⟨b, o, sp⟩) n c xs rfl ?c2 HO.out ?c3 ?c4 ?c5 ?_; rotate_left; skip)
    case c1 => exact ⟨rfl, .inr ⟨w.heap.size, 0, 0, #[], rfl, Nat.le_refl _, Blk.new w #[] 171, Nat.le_refl _, by simp, by simp, fun j u hu => by simp at hu⟩⟩
    case c2 => exact Reads.alloc HH.out hB _
    case c3 => unfold maxLen; omega
    case c4 => omega
    case c5 => simp
    intro A' c' w1 hr hg _
    go_wp2
    go_ret
    exact ⟨_, rfl, by simpa using hr, ((Below.refl _ _).alloc (Nat.le_refl _) _).grown hg (by simp) (fun k hk => by simp [Value.ownBlock] at hk; omega)⟩
def LetD (w : World) (base g o n c i : Nat) (xs : List Value) (e : Ending) (w' : World) : Prop :=
  e = .returned (.slice (some ⟨g, o, none⟩) (n - 1) c) ∧ Row w' base 171 2 (.slice (some ⟨g, o, none⟩) (n - 1) c) (n - 1) (xs.take (i * 2) ++ xs.drop ((i + 1) * 2)) ∧ Fr (fun k => k = g) w w'
theorem zero171 (w : World) : (zeroValue 171).run Try.prog w = .ok (.agg #[.int .i64 0, .slice none 0 0]) w := by kernel_rfl
set_option maxHeartbeats 1000000 in
set_option maxRecDepth 100000 in
theorem letDelete (g o n c i : Nat) (xs : List Value) (w : World) (base : Nat) (h : Row w base 171 2 (.slice (some ⟨g, o, none⟩) n c) n xs) (hone : ∀ u ∈ xs, u.oneCell' = true) (hi : i < n) (hm : n ≤ c ∧ c ≤ 9223372036854775807) :
    Calls Try.prog 117 #[.slice (some ⟨g, o, none⟩) n c, .int .i64 i, .int .i64 ((i : Int) + 1)] w (LetD w base g o n c i xs) := by
  obtain ⟨i0, hi0, hz0, hz1, hz2⟩ := info_parts pletinfo
  have ht := h.drew.take (k := i) (by omega)
  have hr := (h.drew.cut (k := i + 1) (by omega)).reads
  have hz3 := zero171
  have hn := Lib.hid (show i + (n - (i + 1)) = n - 1 by omega)
  have s1 := Lib.hid (fun u (hu : u ∈ xs.drop ((i + 1) * 2)) => hone u (List.mem_of_mem_drop hu))
  have hcl := fun (w1 : World) hr1 => run_clear_row (P := Try.prog) w1 base 158 171 (.agg #[.int .i64 0, .slice none 0 0]) 2 Try.underlying158 hz3 rfl (by decide) (by simp [Value.cells, Value.oneCell']) g o (i + (n - (i + 1))) c (n - (i + (n - (i + 1)))) (c - (i + (n - (i + 1)))) (xs.take (i * 2) ++ xs.drop ((i + 1) * 2)) hr1 (by omega) (by omega)
  have q0 : ((i : Int) == (i : Int) + 1) = false := by simp; omega
  have q1 : (i : Int) + 1 ≤ n := by omega
  have q2 : (i : Int) + 1 ≤ c := by omega
  have q3 : (i : Int) ≤ c := by omega
  have q4 : ¬ c = i + (n - (i + 1)) := by omega
  have q5 : i + (n - (i + 1)) ≤ n := by omega
  have q6 : n ≤ c := hm.1
  have hfin : ∀ w1 w2, w.drew.grownBy w1 (some g) → w1.grownBy w2 (some g) → Fr (fun k => k = g) w w2 := fun w1 w2 h1 h2 => (((Fr.refl _ w).drew).grown h1 (fun k e _ => by injection e with e; exact e.symm)).grown h2 (fun k e _ => by injection e with e; exact e.symm)
  have q7 : (0 : Int) ≤ (i : Int) + 1 := by omega
  have q8 : (i : Int) ≤ (i : Int) + 1 := by omega
  have q9 : i + (n - (i + 1)) ≤ c := by omega
  have Q9 := Lib.hid q9
  by_cases hc : c = i + 1
  case pos =>
    obtain rfl : n = i + 1 := by omega
    subst hc
    have hd : xs.drop ((i + 1) * 2) = [] := List.drop_eq_nil_of_le (by have := h.1; omega)
    have hr0 : Reads w.drew 0 2 (some ⟨g, o, none⟩) 0 [] := ⟨rfl, fun h => absurd h (by omega)⟩
    have HD := Lib.hid hd
    rw [hd] at hcl
    simp only [Nat.sub_self, Nat.add_zero, List.append_nil, Nat.add_sub_cancel_left] at hcl
    clear hd hn q9 Q9 q5 hr s1
    go_enter Try.func117, Try.ntmps117
    go_wp2_with fail
    go_region_law (refine step_append_inrow rfl (.tmp 22) (.tmp 25) 158 rfl base 171 i0 2 Try.underlying158 hi0 hz1 (by decide) g o i (i + 1) _ (by simp [Act.eval, Act.put]) ht 0 (some ⟨g, o, none⟩) 0 0 [] (by simp [Act.eval, Act.put]) hr0 (by simp) (by omega) ?_; intro w1 hr1 hg1)
    simp only [Nat.add_zero, List.append_nil] at hr1
    obtain ⟨w2, hrun, hr2, hg2⟩ := hcl w1 hr1
    have hf := Lib.hid (hfin w1 w2 hg1 hg2)
    clear hcl hfin hr1 hg1 hg2
    go_wp2
    go_ret
    exact ⟨by simp, by rw [HD.out, List.append_nil]; simpa using hr2, hf.out⟩
  case neg =>
    simp only [hc, if_false, Option.map_some, add_plain] at hr hcl
    go_enter Try.func117, Try.ntmps117
    go_wp2_with fail
    go_region_law (refine step_append_inrow rfl (.tmp 22) (.tmp 25) 158 rfl base 171 i0 2 Try.underlying158 hi0 hz1 (by decide) g o i c _ (by simp [Act.eval, Act.put]) ht _ (some ⟨g, o + (i + 1) * 2, none⟩) (n - (i + 1)) (c - (i + 1)) _ (by simp [Act.eval, Act.put]) hr s1.out Q9.out ?_; intro w1 hr1 hg1)
    obtain ⟨w2, hrun, hr2, hg2⟩ := hcl w1 hr1
    have hf := Lib.hid (hfin w1 w2 hg1 hg2)
    clear hcl hfin hr1 hg1 hg2
    go_wp2
    go_ret
    exact ⟨by rw [hn.out]; rfl, by rw [← hn.out]; exact hr2, hf.out⟩
end Go.Proofs.Ythlhjaacjhlkhaa
/- Parts of memory that are apart from each other: one of them turns. -/
namespace Go.Proofs.Ythlhjaacjhlkhaa
open Go.RowKit
set_option linter.unusedVariables false
set_option linter.unusedSimpArgs false
/-- The parts are apart from each other. -/
def Dis (ps : List (Nat → Prop)) : Prop := ∀ (i j : Nat) (p q : Nat → Prop), ps[i]? = some p → ps[j]? = some q → i ≠ j → ∀ k, p k → ¬ q k
/-- All parts lie below n. -/
def Bel (ps : List (Nat → Prop)) (n : Nat) : Prop := ∀ (i : Nat) (p : Nat → Prop), ps[i]? = some p → ∀ k, p k → k < n
theorem set_get {ps : List (Nat → Prop)} {i j : Nat} {p' q : Nat → Prop} (h : (ps.set i p')[j]? = some q) : (j = i ∧ q = p') ∨ (j ≠ i ∧ ps[j]? = some q) := by
  rw [List.getElem?_set] at h
  by_cases e : i = j
  · rw [if_pos e] at h
    split at h
    · injection h with h
      exact .inl ⟨e.symm, h.symm⟩
    · cases h
  · rw [if_neg e] at h
    exact .inr ⟨fun e2 => e e2.symm, h⟩
/-- One part turns: it keeps to its own blocks and to new ones. -/
theorem Dis.turn {ps : List (Nat → Prop)} {n i : Nat} {p p' : Nat → Prop} (h : Dis ps) (hb : Bel ps n) (hi : ps[i]? = some p) (hn : ∀ k, p' k → p k ∨ n ≤ k) : Dis (ps.set i p') := by
  intro a b q r ha hb' hne k hk hk'
  rcases set_get ha with ⟨rfl, rfl⟩ | ⟨e1, h1⟩
  · rcases set_get hb' with ⟨rfl, rfl⟩ | ⟨e2, h2⟩
    · exact hne rfl
    · rcases hn k hk with e | e
      · exact h a b p r hi h2 hne k e hk'
      · have := hb b r h2 k hk'; omega
  · rcases set_get hb' with ⟨rfl, rfl⟩ | ⟨e2, h2⟩
    · rcases hn k hk' with e | e
      · exact h a b q p h1 hi hne k hk e
      · have := hb a q h1 k hk; omega
    · exact h a b q r h1 h2 hne k hk hk'
theorem Bel.turn {ps : List (Nat → Prop)} {n m i : Nat} {p' : Nat → Prop} (h : Bel ps n) (hnm : n ≤ m) (hp : ∀ k, p' k → k < m) : Bel (ps.set i p') m := by
  intro j q hj k hk
  rcases set_get hj with ⟨rfl, rfl⟩ | ⟨e1, h1⟩
  · exact hp k hk
  · have := h j q h1 k hk; omega
/-- What the other parts hold, lasts. -/
theorem Dis.other {ps : List (Nat → Prop)} {i j : Nat} {p q : Nat → Prop} (h : Dis ps) (hi : ps[i]? = some p) (hj : ps[j]? = some q) (hne : j ≠ i) : ∀ k, q k → ¬ p k := h j i q p hj hi hne
end Go.Proofs.Ythlhjaacjhlkhaa
/- The program's letters on their way, in memory. -/
namespace Go.Proofs.Ythlhjaacjhlkhaa
open Go.RowKit
set_option maxHeartbeats 400000
set_option linter.unusedVariables false
set_option linter.unusedSimpArgs false
/-- A letter: to whom, what it says, where its bytes lie. -/
structure Lt where
  who : Nat
  sg : Sg
  A : Option Addr
  c : Nat
def Lt.bs (r : Lt) : List Int := encI r.sg.seq r.sg.ack r.sg.flags r.sg.window r.sg.dat
def Lt.v (r : Lt) : Value := .slice r.A r.bs.length r.c
def Lt.cl (r : Lt) : List Value := [.int .i64 r.who, r.v]
theorem Lt.bs_len (r : Lt) : r.bs.length = 14 + r.sg.dat.length := enc_len _ _ _ _ _
/-- Its bytes lie in blocks of Z. -/
structure Lt.Fine (r : Lt) (W : World) (Z : Nat → Prop) : Prop where
  rb : RB W W.heap.size r.A r.bs.length r.bs
  cap : r.bs.length ≤ r.c ∧ r.c ≤ 9223372036854775807
  own : ∀ k, r.v.ownBlock = some k → Z k
theorem rb_keep {w w' : World} {n c : Nat} {A : Option Addr} {xs : List Int} {S : Nat → Prop} (h : RB w w.heap.size A n xs) (hf : Fr S w w') (hn : ∀ j, (Value.slice A n c).ownBlock = some j → ¬ S j) : RB w' w'.heap.size A n xs := by
  refine ⟨⟨h.1.1, fun h0 => ?_⟩, h.2⟩
  obtain ⟨b, o, e, hb, hc⟩ := h.1.2 h0
  subst e
  exact ⟨b, o, rfl, Nat.lt_of_lt_of_le hb hf.size, fun j u hu => (hf.cell (p := ⟨b, o + j, none⟩) hb (hn b rfl)).trans (hc j u hu)⟩
theorem Lt.Fine.fr {r : Lt} {W W' : World} {Z Z' S : Nat → Prop} (h : r.Fine W Z) (hf : Fr S W W') (hS : ∀ k, Z k → ¬ S k) (hZ : ∀ k, Z k → Z' k) : r.Fine W' Z' :=
  ⟨rb_keep (c := r.c) h.rb hf (fun j hj => hS j (h.own j hj)), h.cap, fun k hk => hZ k (h.own k hk)⟩
/-- All that is on its way. -/
def LtL (W : World) (B : Nat) (Z : Nat → Prop) (v : Value) (L : List (Nat × Sg)) : Prop :=
  ∃ rs : List Lt, (rs.map fun r => (r.who, r.sg)) = L ∧ Row W B 171 2 v rs.length (rs.flatMap Lt.cl) ∧ ∀ r ∈ rs, r.Fine W Z
namespace LtL
variable {W W' : World} {B : Nat} {Z Z' S : Nat → Prop} {v : Value} {L : List (Nat × Sg)}
theorem nil (W : World) (B : Nat) (Z : Nat → Prop) : LtL W B Z (.slice none 0 0) [] := ⟨[], rfl, Row.nil _ _ _ _, fun r hr => by cases hr⟩
theorem fr (h : LtL W B Z v L) (hf : Fr S W W') (hv : ∀ k, v.ownBlock = some k → ¬ S k) (hS : ∀ k, Z k → ¬ S k) (hZ : ∀ k, Z k → Z' k) : LtL W' B Z' v L := by
  obtain ⟨rs, e, h1, h2⟩ := h
  exact ⟨rs, e, h1.fr hf hv, fun r hr => (h2 r hr).fr hf hS hZ⟩
theorem shape (h : LtL W B Z v L) : ∃ A c, v = .slice A L.length c ∧ L.length ≤ c ∧ c ≤ maxLen := by
  obtain ⟨rs, e, h1, h2⟩ := h
  obtain ⟨A, c, e2, h3, h4⟩ := h1.shape
  have hl : L.length = rs.length := by rw [← e, List.length_map]
  exact ⟨A, c, by rw [e2, hl], by rw [hl]; exact h3, h4⟩
end LtL
theorem lts_len (rs : List Lt) : (rs.flatMap Lt.cl).length = rs.length * 2 := by
  induction rs with
  | nil => rfl
  | cons r rs ih => simp only [List.flatMap_cons, List.length_append, ih, List.length_cons, Lt.cl, List.length_nil]; omega
theorem lts_one (rs : List Lt) : ∀ u ∈ rs.flatMap Lt.cl, u.oneCell' = true := fun u hu => by
  obtain ⟨r, _, hu⟩ := List.mem_flatMap.1 hu
  unfold Lt.cl Lt.v at hu
  rcases List.mem_cons.1 hu with e | e
  · subst e; rfl
  · rw [List.mem_singleton.1 e]; rfl
theorem lts_take : ∀ (rs : List Lt) (i : Nat), (rs.flatMap Lt.cl).take (i * 2) = (rs.take i).flatMap Lt.cl
  | [], i => by simp
  | r :: rs, 0 => by simp
  | r :: rs, i + 1 => by
    have ih := lts_take rs i
    have e : (i + 1) * 2 = i * 2 + 1 + 1 := by omega
    simp only [List.flatMap_cons, Lt.cl, List.cons_append, List.nil_append, List.take_succ_cons, e]
    rw [← ih]
theorem lts_drop : ∀ (rs : List Lt) (i : Nat), (rs.flatMap Lt.cl).drop (i * 2) = (rs.drop i).flatMap Lt.cl
  | [], i => by simp
  | r :: rs, 0 => by simp
  | r :: rs, i + 1 => by
    have ih := lts_drop rs i
    have e : (i + 1) * 2 = i * 2 + 1 + 1 := by omega
    simp only [List.flatMap_cons, Lt.cl, List.cons_append, List.nil_append, List.drop_succ_cons, e]
    rw [← ih]
/-- One is taken out. -/
theorem lts_erase (rs : List Lt) (i : Nat) : (rs.flatMap Lt.cl).take (i * 2) ++ (rs.flatMap Lt.cl).drop ((i + 1) * 2) = (rs.eraseIdx i).flatMap Lt.cl := by
  rw [lts_take, lts_drop, ← List.flatMap_append, List.eraseIdx_eq_take_drop_succ]
end Go.Proofs.Ythlhjaacjhlkhaa
/- The program's line in memory: both ends, what they told, what is on its way. -/
namespace Go.Proofs.Ythlhjaacjhlkhaa
open Go.RowKit
set_option maxHeartbeats 400000
set_option linter.unusedVariables false
set_option linter.unusedSimpArgs false
/-- Two parts turn at once. -/
theorem Dis.turn2 {ps : List (Nat → Prop)} {n i j : Nat} {p q p' q' : Nat → Prop} (h : Dis ps) (hb : Bel ps n) (hi : ps[i]? = some p) (hj : ps[j]? = some q) (hij : i ≠ j) (hp : ∀ k, p' k → p k ∨ n ≤ k) (hq : ∀ k, q' k → q k ∨ n ≤ k) (hpq : ∀ k, p' k → ¬ q' k) : Dis ((ps.set i p').set j q') := by
  have old : ∀ {a b : Nat} {r s r' : Nat → Prop}, ps[a]? = some r → ps[b]? = some s → a ≠ b → (∀ k, r' k → r k ∨ n ≤ k) → ∀ k, r' k → ¬ s k := fun ha hb' hne hr k hk hs => by
    rcases hr k hk with e | e
    · exact h _ _ _ _ ha hb' hne k e hs
    · have := hb _ _ hb' k hs; omega
  intro a b r s ha hb' hne k hk hk'
  rcases set_get ha with ⟨rfl, rfl⟩ | ⟨e1, h1⟩
  · rcases set_get hb' with ⟨rfl, rfl⟩ | ⟨e2, h2⟩
    · exact hne rfl
    · rcases set_get h2 with ⟨rfl, rfl⟩ | ⟨e3, h3⟩
      · exact hpq k hk' hk
      · exact old hj h3 hne hq k hk hk'
  · rcases set_get hb' with ⟨rfl, rfl⟩ | ⟨e2, h2⟩
    · rcases set_get h1 with ⟨rfl, rfl⟩ | ⟨e3, h3⟩
      · exact hpq k hk hk'
      · exact old hj h3 (Ne.symm hne) hq k hk' hk
    · rcases set_get h1 with ⟨rfl, rfl⟩ | ⟨e3, h3⟩
      · rcases set_get h2 with ⟨rfl, rfl⟩ | ⟨e4, h4⟩
        · exact hne rfl
        · exact old hi h4 hne hp k hk hk'
      · rcases set_get h2 with ⟨rfl, rfl⟩ | ⟨e4, h4⟩
        · exact old hi h3 (Ne.symm hne) hp k hk' hk
        · exact h a b r s h3 h4 hne k hk hk'
def upd {α : Type} (f : Nat → α) (e : Nat) (x : α) : Nat → α := fun i => if i = e then x else f i
theorem upd_same {α : Type} (f : Nat → α) (e : Nat) (x : α) : upd f e x e = x := by simp [upd]
theorem upd_other {α : Type} (f : Nat → α) {e i : Nat} (h : i ≠ e) (x : α) : upd f e x i = f i := by simp [upd, h]
def ownV (v : Value) (k : Nat) : Prop := v.ownBlock = some k
/-- Where a line lies. -/
structure Lay where
  lb : Nat
  g : Nat → Nat
  vo : Nat → Value
  vi : Nat → Value
  vw : Nat → Value
  vr : Nat → Value
  v : Value
  z : Nat → Prop
def Lay.parts (l : Lay) : List (Nat → Prop) := [fun k => k = l.lb, Ob2F (l.g 0) (l.vo 0) (l.vi 0), Ob2F (l.g 1) (l.vo 1) (l.vi 1), ownV (l.vw 0), ownV (l.vw 1), ownV (l.vr 0), ownV (l.vr 1), ownV l.v, l.z]
def Lay.cells (l : Lay) : Array Value := #[.pointer (some ⟨l.g 0, 0, none⟩), .pointer (some ⟨l.g 1, 0, none⟩), l.vw 0, l.vr 0, .bool false, .int .i64 0, l.vw 1, l.vr 1, .bool false, .int .i64 0, l.v]
/-- A line: the states S of its ends, what they told (tw, tr), what is on its way. -/
structure Ln (w : World) (B : Nat) (l : Lay) (S : Nat → Sm) (x : Nat → EC) (tw tr : Nat → List Int) (way : List (Nat × Sg)) : Prop where
  blk : Blk w l.lb l.cells 160
  tie : ∀ e, e < 2 → Tie (S e) (x e)
  est : ∀ e, e < 2 → ESt w B (l.g e) (x e) (l.vo e) (l.vi e) (S e).out (S e).inn
  wr : ∀ e, e < 2 → Row w B 5 1 (l.vw e) (tw e).length ((tw e).map (Value.int .u8))
  rd : ∀ e, e < 2 → Row w B 5 1 (l.vr e) (tr e).length ((tr e).map (Value.int .u8))
  way : LtL w B l.z l.v way
  dis : Dis l.parts
  bel : Bel l.parts w.heap.size
  low : B ≤ l.lb
namespace Ln
variable {w w' : World} {B : Nat} {l : Lay} {S : Nat → Sm} {x : Nat → EC} {tw tr : Nat → List Int} {way : List (Nat × Sg)}
theorem partE (l : Lay) {e : Nat} (he : e < 2) : l.parts[1 + e]? = some (Ob2F (l.g e) (l.vo e) (l.vi e)) := by
  rcases (by omega : e = 0 ∨ e = 1) with rfl | rfl <;> rfl
theorem partW (l : Lay) {e : Nat} (he : e < 2) : l.parts[3 + e]? = some (ownV (l.vw e)) := by
  rcases (by omega : e = 0 ∨ e = 1) with rfl | rfl <;> rfl
theorem partR (l : Lay) {e : Nat} (he : e < 2) : l.parts[5 + e]? = some (ownV (l.vr e)) := by
  rcases (by omega : e = 0 ∨ e = 1) with rfl | rfl <;> rfl
/-- Nothing of the line has turned. -/
theorem grow (h : Ln w B l S x tw tr way) (hb : Below w.heap.size w w') : Ln w' B l S x tw tr way :=
  ⟨h.blk.fr (Fr.of_grow hb) id, h.tie, fun e he => Ob2.grow (h.est e he) hb, fun e he => (h.wr e he).grow hb, fun e he => (h.rd e he).grow hb, h.way.fr (Fr.of_grow hb) (fun _ _ => id) (fun _ _ => id) (fun _ => id), h.dis, fun i p hp k hk => Nat.lt_of_lt_of_le (h.bel i p hp k hk) hb.size, h.low⟩
/-- One end has turned. -/
theorem endGo (h : Ln w B l S x tw tr way) {e : Nat} (he : e < 2) {s' : Sm} {x' : EC} (ht : Tie s' x') (hg : EGo w B (l.g e) (l.vo e) (l.vi e) x' s'.out s'.inn w') :
    ∃ vo' vi', Ln w' B { l with vo := upd l.vo e vo', vi := upd l.vi e vi' } (upd S e s') (upd x e x') tw tr way ∧ Fr (Ob2F (l.g e) (l.vo e) (l.vi e)) w w' := by
  obtain ⟨v1, v2, m, f, o⟩ := hg
  have hparts : ({ l with vo := upd l.vo e v1, vi := upd l.vi e v2 } : Lay).parts = l.parts.set (1 + e) (Ob2F (l.g e) v1 v2) := by
    rcases (by omega : e = 0 ∨ e = 1) with rfl | rfl <;> rfl
  have other : ∀ {j : Nat} {q : Nat → Prop}, l.parts[j]? = some q → j ≠ 1 + e → ∀ k, q k → ¬ Ob2F (l.g e) (l.vo e) (l.vi e) k := fun hj hne => h.dis.other (partE l he) hj hne
  refine ⟨v1, v2, ⟨?_, fun i hi => ?_, fun i hi => ?_, fun i hi => ?_, fun i hi => ?_, ?_, ?_, ?_, h.low⟩, f⟩
  · exact h.blk.fr f (other (j := 0) rfl (by omega) l.lb rfl)
  · by_cases hie : i = e
    · subst hie; rw [upd_same, upd_same]; exact ht
    · rw [upd_other _ hie, upd_other _ hie]; exact h.tie i hi
  · by_cases hie : i = e
    · subst hie
      dsimp only
      rw [upd_same, upd_same, upd_same, upd_same]
      exact m
    · dsimp only
      rw [upd_other _ hie, upd_other _ hie, upd_other _ hie, upd_other _ hie]
      exact Ob2.keep (h.est i hi) f (other (partE l hi) (by omega))
  · exact (h.wr i hi).fr f (other (partW l hi) (by omega))
  · exact (h.rd i hi).fr f (other (partR l hi) (by omega))
  · exact h.way.fr f (other (j := 7) rfl (by omega)) (other (j := 8) rfl (by omega)) (fun _ => id)
  · rw [hparts]
    exact h.dis.turn h.bel (partE l he) o
  · rw [hparts]
    exact h.bel.turn f.size (fun k hk => (Ob2.lt m k hk).2)
/-- A row of the line has turned, and its cell in the line's object. -/
theorem rowGo (h : Ln w B l S x tw tr way) {j c : Nat} {u v : Value} {w9 : World} {l' : Lay} (hj : l.parts[j]? = some (ownV u)) (hj0 : j ≠ 0) (hf : Fr (ownV u) w w9) (ho : ∀ k, v.ownBlock = some k → ownV u k ∨ w.heap.size ≤ k) (hlt : ∀ k, v.ownBlock = some k → k < w9.heap.size)
    (hc : l.cells.setIfInBounds c v = l'.cells) (hlb : l'.lb = l.lb) (hp : l'.parts = l.parts.set j (ownV v)) :
    Blk (w9.setCell ⟨l.lb, c, none⟩ v) l'.lb l'.cells 160 ∧ Fr (fun k => ownV u k ∨ k = l.lb) w (w9.setCell ⟨l.lb, c, none⟩ v) ∧ Dis l'.parts ∧ Bel l'.parts (w9.setCell ⟨l.lb, c, none⟩ v).heap.size ∧ v.ownBlock ≠ some l.lb := by
  have hnb : ¬ ownV u l.lb := fun e => h.dis.other (i := j) (j := 0) hj rfl (by omega) l.lb rfl e
  refine ⟨?_, (hf.mono (S' := fun k => ownV u k ∨ k = l.lb) fun k _ e => .inl e).setCell (p := ⟨l.lb, c, none⟩) (fun _ => .inr rfl) v, ?_, ?_, fun e => ?_⟩
  · rw [hlb, ← hc]
    exact (h.blk.fr hf hnb).set c v
  · rw [hp]; exact h.dis.turn h.bel hj ho
  · rw [hp, World.size_setCell]
    exact h.bel.turn hf.size hlt
  · rcases ho _ e with e2 | e2
    · exact hnb e2
    · have := h.blk.lt; omega
theorem wrote (h : Ln w B l S x tw tr way) {e : Nat} (he : e < 2) {w9 : World} {v : Value} {xs : List Int} (hf : Fr (ownV (l.vw e)) w w9) (hr : Row w9 B 5 1 v xs.length (xs.map (Value.int .u8))) (ho : ∀ k, v.ownBlock = some k → ownV (l.vw e) k ∨ w.heap.size ≤ k) :
    Ln (w9.setCell ⟨l.lb, 2 + 4 * e, none⟩ v) B { l with vw := upd l.vw e v } S x (upd tw e xs) tr way := by
  obtain ⟨a1, a2, a3, a4, a5⟩ := h.rowGo (l' := { l with vw := upd l.vw e v }) (c := 2 + 4 * e) (partW l he) (by omega) hf ho (fun k hk => (hr.lt k hk).2) (by rcases (by omega : e = 0 ∨ e = 1) with rfl | rfl <;> rfl) rfl (by rcases (by omega : e = 0 ∨ e = 1) with rfl | rfl <;> rfl)
  have other : ∀ {j : Nat} {q : Nat → Prop}, l.parts[j]? = some q → j ≠ 3 + e → j ≠ 0 → ∀ k, q k → ¬ (ownV (l.vw e) k ∨ k = l.lb) := fun hj h3 h0 k hk hs => by
    rcases hs with hs | hs
    · exact h.dis.other (partW l he) hj h3 k hk hs
    · exact h.dis.other (i := 0) rfl hj h0 k hk hs
  refine ⟨a1, h.tie, fun i hi => Ob2.keep (h.est i hi) a2 (other (partE l hi) (by omega) (by omega)), fun i hi => ?_, fun i hi => (h.rd i hi).fr a2 (other (partR l hi) (by omega) (by omega)), h.way.fr a2 (other (j := 7) rfl (by omega) (by omega)) (other (j := 8) rfl (by omega) (by omega)) (fun _ => id), a3, a4, h.low⟩
  by_cases hie : i = e
  · subst hie
    dsimp only
    rw [upd_same, upd_same]
    exact hr.setCell (p := ⟨l.lb, 2 + 4 * i, none⟩) a5 v
  · dsimp only
    rw [upd_other _ hie, upd_other _ hie]
    exact (h.wr i hi).fr a2 (other (partW l hi) (by omega) (by omega))
theorem readGo (h : Ln w B l S x tw tr way) {e : Nat} (he : e < 2) {w9 : World} {v : Value} {xs : List Int} (hf : Fr (ownV (l.vr e)) w w9) (hr : Row w9 B 5 1 v xs.length (xs.map (Value.int .u8))) (ho : ∀ k, v.ownBlock = some k → ownV (l.vr e) k ∨ w.heap.size ≤ k) :
    Ln (w9.setCell ⟨l.lb, 3 + 4 * e, none⟩ v) B { l with vr := upd l.vr e v } S x tw (upd tr e xs) way := by
  obtain ⟨a1, a2, a3, a4, a5⟩ := h.rowGo (l' := { l with vr := upd l.vr e v }) (c := 3 + 4 * e) (partR l he) (by omega) hf ho (fun k hk => (hr.lt k hk).2) (by rcases (by omega : e = 0 ∨ e = 1) with rfl | rfl <;> rfl) rfl (by rcases (by omega : e = 0 ∨ e = 1) with rfl | rfl <;> rfl)
  have other : ∀ {j : Nat} {q : Nat → Prop}, l.parts[j]? = some q → j ≠ 5 + e → j ≠ 0 → ∀ k, q k → ¬ (ownV (l.vr e) k ∨ k = l.lb) := fun hj h3 h0 k hk hs => by
    rcases hs with hs | hs
    · exact h.dis.other (partR l he) hj h3 k hk hs
    · exact h.dis.other (i := 0) rfl hj h0 k hk hs
  refine ⟨a1, h.tie, fun i hi => Ob2.keep (h.est i hi) a2 (other (partE l hi) (by omega) (by omega)), fun i hi => (h.wr i hi).fr a2 (other (partW l hi) (by omega) (by omega)), fun i hi => ?_, h.way.fr a2 (other (j := 7) rfl (by omega) (by omega)) (other (j := 8) rfl (by omega) (by omega)) (fun _ => id), a3, a4, h.low⟩
  by_cases hie : i = e
  · subst hie
    dsimp only
    rw [upd_same, upd_same]
    exact hr.setCell (p := ⟨l.lb, 3 + 4 * i, none⟩) a5 v
  · dsimp only
    rw [upd_other _ hie, upd_other _ hie]
    exact (h.rd i hi).fr a2 (other (partR l hi) (by omega) (by omega))
/-- What is on its way has turned. -/
theorem wayGo (h : Ln w B l S x tw tr way) {w9 : World} {v : Value} {z' : Nat → Prop} {way' : List (Nat × Sg)} (hf : Fr (ownV l.v) w w9) (hl : LtL w9 B z' v way') (ho : ∀ k, v.ownBlock = some k → ownV l.v k ∨ w.heap.size ≤ k) (hz : ∀ k, z' k → l.z k ∨ w.heap.size ≤ k) (hzb : ∀ k, z' k → k < w9.heap.size) (hvz : ∀ k, v.ownBlock = some k → ¬ z' k) :
    Ln (w9.setCell ⟨l.lb, 10, none⟩ v) B { l with v := v, z := z' } S x tw tr way' := by
  have hlv : ∀ k, v.ownBlock = some k → k < w9.heap.size := fun k hk => by
    obtain ⟨rs, _, h1, _⟩ := hl
    exact (h1.lt k hk).2
  have hnb : ¬ ownV l.v l.lb := fun e => h.dis.other (i := 7) (j := 0) rfl rfl (by omega) l.lb rfl e
  have hvb : v.ownBlock ≠ some l.lb := fun e => by
    rcases ho _ e with e2 | e2
    · exact hnb e2
    · have := h.blk.lt; omega
  have hzl : ¬ z' l.lb := fun e => by
    rcases hz _ e with e2 | e2
    · exact h.dis.other (i := 8) (j := 0) rfl rfl (by omega) l.lb rfl e2
    · have := h.blk.lt; omega
  have a2 : Fr (fun k => ownV l.v k ∨ k = l.lb) w (w9.setCell ⟨l.lb, 10, none⟩ v) := (hf.mono (S' := fun k => ownV l.v k ∨ k = l.lb) fun k _ e => .inl e).setCell (p := ⟨l.lb, 10, none⟩) (fun _ => .inr rfl) v
  have other : ∀ {j : Nat} {q : Nat → Prop}, l.parts[j]? = some q → j ≠ 7 → j ≠ 0 → ∀ k, q k → ¬ (ownV l.v k ∨ k = l.lb) := fun hj h3 h0 k hk hs => by
    rcases hs with hs | hs
    · exact h.dis.other (i := 7) rfl hj h3 k hk hs
    · exact h.dis.other (i := 0) rfl hj h0 k hk hs
  refine ⟨(h.blk.fr hf hnb).set 10 v, h.tie, fun i hi => Ob2.keep (h.est i hi) a2 (other (partE l hi) (by omega) (by omega)), fun i hi => (h.wr i hi).fr a2 (other (partW l hi) (by omega) (by omega)), fun i hi => (h.rd i hi).fr a2 (other (partR l hi) (by omega) (by omega)), ?_, ?_, ?_, h.low⟩
  · exact hl.fr ((Fr.refl (fun k => k = l.lb) w9).setCell (p := ⟨l.lb, 10, none⟩) (fun _ => rfl) v) (fun k hk e => hvb (by rw [hk, e])) (fun k hk e => hzl (e ▸ hk)) (fun _ => id)
  · exact h.dis.turn2 (i := 7) (j := 8) h.bel rfl rfl (by omega) ho hz hvz
  · rw [World.size_setCell]
    have hb1 : Bel (l.parts.set 7 (ownV v)) w9.heap.size := h.bel.turn hf.size hlv
    exact hb1.turn (i := 8) (Nat.le_refl _) hzb
end Ln
end Go.Proofs.Ythlhjaacjhlkhaa
/- Contract of the line's own: a deed of one end. -/
namespace Go.Proofs.Ythlhjaacjhlkhaa
open Go.RowKit
set_option maxHeartbeats 400000
set_option linter.unusedVariables false
set_option linter.unusedSimpArgs false
/-- What has been read. -/
def Sm.rdL (s : Sm) : List Int := s.got.take s.rd
def Sys.at (y : Sys) (e : Nat) : Sm := if e = 0 then y.a else y.b
/-- The line says the system. -/
def LnS (w : World) (B : Nat) (l : Lay) (y : Sys) (x : Nat → EC) : Prop := Ln w B l y.at x (fun i => (y.at i).said) (fun i => (y.at i).rdL) y.way
/-- What a deed leaves of the line. -/
def LnQ (w : World) (B : Nat) (l : Lay) (y : Sys) (w' : World) : Prop := ∃ l' x, l'.lb = l.lb ∧ l'.g = l.g ∧ LnS w' B l' y x ∧ Fr (fun k => B ≤ k) w w'
def LnP (w : World) (B : Nat) (l : Lay) (y : Sys) (e : Ending) (w' : World) : Prop := e = .returned (.tuple #[]) ∧ LnQ w B l y w'
theorem Sys.at_on (y : Sys) {e : Nat} (he : e < 2) (f : Sm → Sm) : ∀ i, i < 2 → upd y.at e (f (y.at e)) i = (y.onE e f).at i := fun i hi => by
  rcases (by omega : e = 0 ∨ e = 1) with rfl | rfl <;> rcases (by omega : i = 0 ∨ i = 1) with rfl | rfl <;> rfl
theorem Sys.said_on (y : Sys) (e : Nat) {f : Sm → Sm} (hf : ∀ s, (f s).said = s.said) (i : Nat) : ((y.onE e f).at i).said = (y.at i).said := by
  unfold Sys.onE Sys.at
  split <;> split <;> first | rfl | exact hf _
theorem Sys.rdL_on (y : Sys) {e : Nat} (he : e < 2) {f : Sm → Sm} (hf : (f (y.at e)).rdL = (y.at e).rdL) (i : Nat) (hi : i < 2) : ((y.onE e f).at i).rdL = (y.at i).rdL := by
  rw [← y.at_on he f i hi]
  by_cases h : i = e
  · subst h; rw [upd_same]; exact hf
  · rw [upd_other _ h]
theorem Sys.said_up (y : Sys) {e : Nat} (he : e < 2) {f : Sm → Sm} {xs : List Int} (hf : (f (y.at e)).said = xs) (i : Nat) (hi : i < 2) : upd (fun i => (y.at i).said) e xs i = ((y.onE e f).at i).said := by
  rw [← y.at_on he f i hi]
  by_cases h : i = e
  · subst h; rw [upd_same, upd_same]; exact hf.symm
  · rw [upd_other _ h, upd_other _ h]
theorem Sys.rdL_up (y : Sys) {e : Nat} (he : e < 2) {f : Sm → Sm} {xs : List Int} (hf : (f (y.at e)).rdL = xs) (i : Nat) (hi : i < 2) : upd (fun i => (y.at i).rdL) e xs i = ((y.onE e f).at i).rdL := by
  rw [← y.at_on he f i hi]
  by_cases h : i = e
  · subst h; rw [upd_same, upd_same]; exact hf.symm
  · rw [upd_other _ h, upd_other _ h]
namespace Ln
variable {w w' : World} {B : Nat} {l : Lay} {S S' : Nat → Sm} {x : Nat → EC} {tw tr tw' tr' : Nat → List Int} {way way' : List (Nat × Sg)}
theorem of (h : Ln w B l S x tw tr way) (hS : ∀ i, i < 2 → S i = S' i) (hw : ∀ i, i < 2 → tw i = tw' i) (hr : ∀ i, i < 2 → tr i = tr' i) (hy : way = way') : Ln w B l S' x tw' tr' way' :=
  ⟨h.blk, fun e he => hS e he ▸ h.tie e he, fun e he => hS e he ▸ h.est e he, fun e he => hw e he ▸ h.wr e he, fun e he => hr e he ▸ h.rd e he, hy ▸ h.way, h.dis, h.bel, h.low⟩
/-- The same; a block that is none of the line's keeps what it holds. -/
theorem endGo3 (h : Ln w B l S x tw tr way) {e : Nat} (he : e < 2) {s' : Sm} {x' : EC} (ht : Tie s' x') (hg : EGo w B (l.g e) (l.vo e) (l.vi e) x' s'.out s'.inn w') :
    ∃ l', l'.lb = l.lb ∧ l'.g = l.g ∧ Ln w' B l' (upd S e s') (upd x e x') tw tr way ∧ Fr (fun k => B ≤ k) w w' ∧ ∀ g cs t, Blk w g cs t → (∀ i, i < 2 → ¬ Ob2F (l.g i) (l.vo i) (l.vi i) g) → Blk w' g cs t := by
  obtain ⟨v1, v2, h1, h2⟩ := h.endGo he ht hg
  exact ⟨{ l with vo := upd l.vo e v1, vi := upd l.vi e v2 }, rfl, rfl, h1, h2.mono (fun k _ hk => (Ob2.lt (h.est e he) k hk).1), fun g cs t hb hn => hb.fr h2 (hn e he)⟩
theorem ends_lt (h : Ln w B l S x tw tr way) {g : Nat} (hg : w.heap.size ≤ g) : ∀ i, i < 2 → ¬ Ob2F (l.g i) (l.vo i) (l.vi i) g := fun i hi hk => by
  have := (Ob2.lt (h.est i hi) g hk).2
  omega
end Ln
/-- How the line was is of no more interest: what it says now. -/
theorem LnS.done {w w' : World} {B : Nat} {l l' : Lay} {y : Sys} {f : Sm → Sm} {x : Nat → EC} {tw tr : Nat → List Int} {e : Nat} (he : e < 2) (h : Ln w' B l' (upd y.at e (f (y.at e))) x tw tr y.way)
    (hw : ∀ i, i < 2 → tw i = ((y.onE e f).at i).said) (hr : ∀ i, i < 2 → tr i = ((y.onE e f).at i).rdL) (hlb : l'.lb = l.lb) (hlg : l'.g = l.g) (hf : Fr (fun k => B ≤ k) w w') : LnQ w B l (y.onE e f) w' :=
  ⟨l', x, hlb, hlg, h.of (y.at_on he f) hw hr (Sys.onE_way y e f).symm, hf⟩
theorem given_said {s : Sm} {x : EC} {m : Nat} (t : Tie s x) (ok : s.Ok m) (d : List Int) : (s.givenS d).said = s.said ++ d.take (stWN x s.out.length d.length) := by
  have hl := s.out_len
  unfold stWN Sm.givenS
  rw [tie_givenE t ok]
  by_cases h : s.givenE d = 0
  · rw [if_pos h, if_pos h]
    show s.said ++ d.take (s.givenN d) = _
    unfold Sm.givenN Sm.roomN
    rw [hl]
  · rw [if_neg h, if_neg h]
    simp
theorem given_rdL (s : Sm) (d : List Int) : (s.givenS d).rdL = s.rdL := by unfold Sm.givenS; split <;> rfl
theorem taken_said (s : Sm) (n : Int) : (s.takenS n).said = s.said := by unfold Sm.takenS; split <;> rfl
theorem taken_rdL (s : Sm) (n : Int) : (s.takenS n).rdL = s.rdL ++ s.takenV n := by
  unfold Sm.takenS Sm.takenV
  by_cases h : s.takenE n = 0
  · rw [if_pos h, if_pos h]
    show s.got.take (s.rd + s.takenN n) = s.got.take s.rd ++ (s.got.drop s.rd).take (s.takenN n)
    rw [List.take_add]
  · rw [if_neg h, if_neg h]
    simp
theorem closed_said (s : Sm) : s.closedS.said = s.said := by unfold Sm.closedS; split <;> rfl
theorem closed_rdL (s : Sm) : s.closedS.rdL = s.rdL := by unfold Sm.closedS; split <;> rfl
theorem stWN_le (x : EC) (l n : Nat) : stWN x l n ≤ n := by unfold stWN; split <;> omega
theorem stWN_64 (x : EC) (l n : Nat) : stWN x l n ≤ 64 := by unfold stWN; split <;> omega
theorem fr_ge {B : Nat} {S : Nat → Prop} {w w' : World} (hf : Fr S w w') (h : ∀ k, S k → B ≤ k) : Fr (fun k => B ≤ k) w w' := hf.mono (fun k _ hk => h k hk)
theorem fr_below {B : Nat} {w w' : World} (hb : Below w.heap.size w w') : Fr (fun k => B ≤ k) w w' := (Fr.of_grow hb).mono (fun _ _ h => h.elim)
theorem fr_trans {B : Nat} {w w' w'' : World} (h : Fr (fun k => B ≤ k) w w') (h' : Fr (fun k => B ≤ k) w' w'') : Fr (fun k => B ≤ k) w w'' := h.trans h' (fun _ _ h => h)
theorem Sys.Ok.at_ {y : Sys} {m : Nat} (h : y.Ok m) (e : Nat) : (y.at e).Ok m := by unfold Sys.at; split; exact h.a; exact h.b
section
variable {w : World} {B : Nat} {l : Lay} {y : Sys} {x : Nat → EC} {m : Nat}
set_option maxHeartbeats 4000000 in
set_option maxRecDepth 100000 in
theorem own_put0 (h : LnS w B l y x) (hok : y.Ok m) (hm : m ≤ 1000) (hfn : (y.at 0).Fn) (n : Int) (A : Option Addr) (k c : Nat) (ds : List Int) (hd : RB w B A k ds) (hkc : k ≤ c) (hcm : c ≤ 9223372036854775807) (hB : B ≤ w.heap.size) :
    Calls Try.prog 112 #[.pointer (some ⟨l.lb, 0, none⟩), .agg #[.int .i64 1, .int .i64 0, .int .i64 n, .slice A k c]] w (LnP w B l (y.onE 0 (fun s => s.givenS ds))) := by
  obtain ⟨i0, ii, hz0, hz1, hz2⟩ := info_parts pu8info
  have HH := Lib.hid h
  have c0 := h.blk.cell 0
  have c1 := h.blk.cell 1
  have hl := h.blk.lt
  dsimp [Lay.cells] at c0 c1
  have HOK := Lib.hid (hok.at_ 0)
  have HM := Lib.hid hm
  have HFN := Lib.hid hfn
  have HD := Lib.hid hd
  have hdl := hd.len
  clear hfn hd
  clear h hok hm
  go_enter Try.func112, Try.ntmps112
  go_wp2_with fail
  have hba : Below w.heap.size w (w.alloc (.cells #[.int .i64 1, .int .i64 0, .int .i64 n, .slice A k c] 162)) := (Below.refl _ w).alloc (Nat.le_refl _) _
  have HBA := Lib.hid hba
  clear hba
  refine wp_region_near (w.heap.size + 1) (by kernel_rfl) (by kernel_rfl) ?_
  repeat (go_big_quiet_step (fail))
  refine wpQuiet_nil ?_
  intro w3 hb3
  have HB3 := Lib.hid (HBA.out.trans (hb3.mono (by simp)))
  have hdb := (Blk.new w #[.int .i64 1, .int .i64 0, .int .i64 n, .slice A k c] 162).fr (Fr.of_grow (hb3.mono (by simp))) id
  have HDB := Lib.hid hdb
  have d0 := hdb.cell 0
  have d2 := hdb.cell 2
  have d3 := hdb.cell 3
  have dl := hdb.lt
  dsimp at d0 d2 d3
  have HN : Hid (LnS w3 B l y x) := Lib.hid (Ln.grow HH.out HB3.out)
  have hB3 : Hid (B ≤ w3.heap.size) := Lib.hid (Nat.le_trans hB HB3.out.size)
  have HF3 := Lib.hid (fr_below (B := B) HB3.out)
  clear hb3 hdb c0 c1 hl HBA
  have htx := tie_givenX (HN.out.tie 0 (by omega)) HOK.out HFN.out ds
  have HSD : Hid (((y.at 0).givenS ds).said = (y.at 0).said ++ ds.take (stWN (x 0) (y.at 0).out.length k)) := Lib.hid (by rw [← hdl]; exact given_said (HN.out.tie 0 (by omega)) HOK.out ds)
  have hle := stWN_le (x 0) (y.at 0).out.length k
  have hN64 := stWN_64 (x 0) (y.at 0).out.length k
  have HW := Lib.hid (write41 (HN.out.est 0 (by omega)) hB3.out (by rw [Sm.out_len]; exact HOK.out.room) A k c ds ((HD.out.below' (HF3.out.below hB (fun k hk => hk)) (Nat.le_refl _)).more hB3.out) hkc hcm)
  rw [htx.2.1, htx.2.2] at HW
  generalize stWN (x 0) (y.at 0).out.length k = N at *
  generalize stWE (x 0) (y.at 0).out.length k = xE at *
  have HTX := Lib.hid htx.1
  clear htx
  go_wp2_with fail
  refine HW.out.mono ?_
  rintro e w4 ⟨rfl, hg⟩
  obtain ⟨l4, hlb, hlg, hm4, hf4, hk4⟩ := Ln.endGo3 HN.out (e := 0) (by omega) HTX.out hg
  have hdb := hk4 _ _ _ HDB.out (HH.out.ends_lt (Nat.le_refl _))
  have d3 := hdb.cell 3
  have dl4 := hdb.lt
  dsimp at d3
  have HM4 := Lib.hid hm4
  have HF4 := Lib.hid (fr_trans HF3.out hf4)
  have HRD : Hid (Reads w4 B 1 A N ((ds.map (Value.int .u8)).take N)) := Lib.hid (by simpa using (HD.out.below' (HF4.out.below hB (fun k hk => hk)) (Nat.le_refl _)).1.take (k := N) hle)
  obtain ⟨A0, c0, e0, h1, h2⟩ := (hm4.wr 0 (by omega)).shape
  have c2 := hm4.blk.cell 2
  have f2 := hm4.blk.free 2
  have l2 := hm4.blk.lt
  dsimp only [Lay.cells] at c2
  simp only [List.getElem?_toArray, List.getElem?_cons_succ, List.getElem?_cons_zero] at c2
  rw [e0, hlb] at c2
  rw [hlb] at f2 l2
  have HROW := Lib.hid (hm4.wr 0 (by omega))
  rw [e0] at HROW
  have hL : (y.at 0).said.length ≤ 64000 := by have := HOK.out.said; have := HM.out; omega
  have hB4 : B ≤ w4.heap.size := Nat.le_trans hB HF4.out.size
  have HFIN : Hid (∀ w9 A9 c9 W, Fr (fun k => (Value.slice A0 (y.at 0).said.length c0).ownBlock = some k) w4 w9 → Row w9 B 5 1 (.slice A9 ((y.at 0).said.length + N) c9) ((y.at 0).said.length + N) ((y.at 0).said.map (Value.int .u8) ++ (ds.map (Value.int .u8)).take N) →
      (∀ k, (Value.slice A9 ((y.at 0).said.length + N) c9).ownBlock = some k → (Value.slice A0 (y.at 0).said.length c0).ownBlock = some k ∨ w4.heap.size ≤ k) → (W = w9.setCell ⟨l.lb, 2, none⟩ (.slice A9 ((y.at 0).said.length + N) c9) ∨ W = (w9.setCell ⟨l.lb, 2, none⟩ (.slice A9 ((y.at 0).said.length + N) c9)).drew) →
      LnP w B l (y.onE 0 (fun s => s.givenS ds)) (.returned (.tuple #[])) W) := Lib.hid (fun w9 A9 c9 W hf hr ho hW => by
    have em : (((y.at 0).givenS ds).said).map (Value.int .u8) = (y.at 0).said.map (Value.int .u8) ++ (ds.map (Value.int .u8)).take N := by rw [HSD.out, List.map_append, List.map_take]
    have el : (((y.at 0).givenS ds).said).length = (y.at 0).said.length + N := by rw [HSD.out, List.length_append, List.length_take]; omega
    have hf' : Fr (ownV (l4.vw 0)) w4 w9 := by rw [e0]; exact hf
    have h9 := Ln.wrote HM4.out (e := 0) (by omega) (xs := ((y.at 0).givenS ds).said) hf' (by rw [em, el]; exact hr) (fun k hk => by rw [e0]; exact ho k hk)
    rw [hlb] at h9
    have hf9 : Fr (fun k => B ≤ k) w4 (w9.setCell ⟨l.lb, 2, none⟩ (.slice A9 ((y.at 0).said.length + N) c9)) :=
      (fr_ge hf (fun k hk => (HROW.out.lt k hk).1)).setCell (p := ⟨l.lb, 2, none⟩) (fun _ => HH.out.low) _
    have fin : LnQ w B l (y.onE 0 (fun s => s.givenS ds)) (w9.setCell ⟨l.lb, 2, none⟩ (.slice A9 ((y.at 0).said.length + N) c9)) :=
      LnS.done (by omega) h9 (y.said_up (by omega) rfl) (fun i hi => (y.rdL_on (e := 0) (by omega) (f := fun s => s.givenS ds) (given_rdL _ _) i hi).symm) rfl hlg (fr_trans HF4.out hf9)
    refine ⟨rfl, ?_⟩
    rcases hW with rfl | rfl
    · exact fin
    · obtain ⟨l9, x9, g1, g0, g2, g3⟩ := fin
      have hd9 := (Below.refl (w9.setCell ⟨l.lb, 2, none⟩ (.slice A9 ((y.at 0).said.length + N) c9)).heap.size (w9.setCell ⟨l.lb, 2, none⟩ (.slice A9 ((y.at 0).said.length + N) c9))).drew
      exact ⟨l9, x9, g1, g0, Ln.grow g2 hd9, fr_trans g3 (fr_below hd9)⟩)
  have HONE := Lib.hid (u8_oneCell ds)
  have hd8 : Hid (∀ u ∈ (ds.map (Value.int .u8)).take N, u.oneCell' = true) := Lib.hid (fun u hu => HONE.out u (List.mem_of_mem_take hu))
  have HK : Hid (∀ w9, Fr (fun k => (Value.slice A0 (y.at 0).said.length c0).ownBlock = some k) w4 w9 → w9.cell? ⟨l.lb, 2, none⟩ = some (.slice A0 (y.at 0).said.length c0) ∧ (w9.frozen? ⟨l.lb, 2, none⟩ = false) ∧ l.lb < w9.heap.size) := Lib.hid (fun w9 hf => by
    have hn : ¬ (Value.slice A0 (y.at 0).said.length c0).ownBlock = some l.lb := fun e9 => by
      have := HM4.out.dis.other (i := 3) (j := 0) (q := fun k => k = l4.lb) (by exact Ln.partW l4 (e := 0) (by omega)) rfl (by omega) l.lb hlb.symm
      exact this (by unfold ownV; rw [e0]; exact e9)
    have hk := HM4.out.blk.fr hf (by rw [hlb]; exact hn)
    have q2 := hk.cell 2
    dsimp only [Lay.cells] at q2
    simp only [List.getElem?_toArray, List.getElem?_cons_succ, List.getElem?_cons_zero] at q2
    have q3 := hk.free 2
    have q4 := hk.lt
    rw [e0, hlb] at q2
    rw [hlb] at q3 q4
    exact ⟨q2, q3, q4⟩)
  have hNc : N ≤ c := by omega
  generalize (y.at 0).said.length = L at *
  generalize (y.at 0).said.map (Value.int .u8) = olds at *
  generalize (ds.map (Value.int .u8)).take N = news at *
  clear hg hm4 hf4 hk4 hdb e0 HDB HW d0 d2 hdl h1 h2
  go_wp2
  go_region_law (refine step_append_row rfl (.tmp 38) (.tmp 42) 23 rfl B 5 i0 (.int .u8 0) 1 1 Try.underlying23 ii hz0 hz1 hz2 rfl (by decide) (.slice A0 L c0) L olds (by simp [Act.eval, Act.put]) HROW.out.drew B A N c news (by simp [Act.eval, Act.put]) HRD.out.drew hd8.out (by unfold maxLen; omega) (by omega) (by simpa using hB4) ?_; intro A9 c9 w9 hr9 hg9 ho9; have hf9 : Fr (fun k => (Value.slice A0 L c0).ownBlock = some k) w4 w9 := ((Fr.refl _ w4).drew).grown hg9 (fun k e _ => e); obtain ⟨k96, kf9, kl9⟩ := HK.out w9 hf9)
  all_goals
    go_wp2
    go_end0
    exact HFIN.out w9 A9 c9 _ hf9 hr9 (fun k hk => by rcases own_cases ho9 hk with h1 | h1; exact .inl h1; simp at h1; exact .inr (by omega)) (by first | exact .inl rfl | exact .inr rfl)
set_option maxHeartbeats 4000000 in
set_option maxRecDepth 100000 in
theorem own_put1 (h : LnS w B l y x) (hok : y.Ok m) (hm : m ≤ 1000) (hfn : (y.at 1).Fn) (n : Int) (A : Option Addr) (k c : Nat) (ds : List Int) (hd : RB w B A k ds) (hkc : k ≤ c) (hcm : c ≤ 9223372036854775807) (hB : B ≤ w.heap.size) :
    Calls Try.prog 112 #[.pointer (some ⟨l.lb, 0, none⟩), .agg #[.int .i64 1, .int .i64 1, .int .i64 n, .slice A k c]] w (LnP w B l (y.onE 1 (fun s => s.givenS ds))) := by
  obtain ⟨i0, ii, hz0, hz1, hz2⟩ := info_parts pu8info
  have HH := Lib.hid h
  have c0 := h.blk.cell 0
  have c1 := h.blk.cell 1
  have hl := h.blk.lt
  dsimp [Lay.cells] at c0 c1
  have HOK := Lib.hid (hok.at_ 1)
  have HM := Lib.hid hm
  have HFN := Lib.hid hfn
  have HD := Lib.hid hd
  have hdl := hd.len
  clear hfn hd
  clear h hok hm
  go_enter Try.func112, Try.ntmps112
  go_wp2_with fail
  have hba : Below w.heap.size w (w.alloc (.cells #[.int .i64 1, .int .i64 1, .int .i64 n, .slice A k c] 162)) := (Below.refl _ w).alloc (Nat.le_refl _) _
  have HBA := Lib.hid hba
  clear hba
  refine wp_region_near (w.heap.size + 1) (by kernel_rfl) (by kernel_rfl) ?_
  repeat (go_big_quiet_step (fail))
  refine wpQuiet_nil ?_
  intro w3 hb3
  have HB3 := Lib.hid (HBA.out.trans (hb3.mono (by simp)))
  have hdb := (Blk.new w #[.int .i64 1, .int .i64 1, .int .i64 n, .slice A k c] 162).fr (Fr.of_grow (hb3.mono (by simp))) id
  have HDB := Lib.hid hdb
  have d0 := hdb.cell 0
  have d2 := hdb.cell 2
  have d3 := hdb.cell 3
  have dl := hdb.lt
  dsimp at d0 d2 d3
  have HN : Hid (LnS w3 B l y x) := Lib.hid (Ln.grow HH.out HB3.out)
  have hB3 : Hid (B ≤ w3.heap.size) := Lib.hid (Nat.le_trans hB HB3.out.size)
  have HF3 := Lib.hid (fr_below (B := B) HB3.out)
  clear hb3 hdb c0 c1 hl HBA
  have htx := tie_givenX (HN.out.tie 1 (by omega)) HOK.out HFN.out ds
  have HSD : Hid (((y.at 1).givenS ds).said = (y.at 1).said ++ ds.take (stWN (x 1) (y.at 1).out.length k)) := Lib.hid (by rw [← hdl]; exact given_said (HN.out.tie 1 (by omega)) HOK.out ds)
  have hle := stWN_le (x 1) (y.at 1).out.length k
  have hN64 := stWN_64 (x 1) (y.at 1).out.length k
  have HW := Lib.hid (write41 (HN.out.est 1 (by omega)) hB3.out (by rw [Sm.out_len]; exact HOK.out.room) A k c ds ((HD.out.below' (HF3.out.below hB (fun k hk => hk)) (Nat.le_refl _)).more hB3.out) hkc hcm)
  rw [htx.2.1, htx.2.2] at HW
  generalize stWN (x 1) (y.at 1).out.length k = N at *
  generalize stWE (x 1) (y.at 1).out.length k = xE at *
  have HTX := Lib.hid htx.1
  clear htx
  go_wp2_with fail
  refine HW.out.mono ?_
  rintro e w4 ⟨rfl, hg⟩
  obtain ⟨l4, hlb, hlg, hm4, hf4, hk4⟩ := Ln.endGo3 HN.out (e := 1) (by omega) HTX.out hg
  have hdb := hk4 _ _ _ HDB.out (HH.out.ends_lt (Nat.le_refl _))
  have d3 := hdb.cell 3
  have dl4 := hdb.lt
  dsimp at d3
  have HM4 := Lib.hid hm4
  have HF4 := Lib.hid (fr_trans HF3.out hf4)
  have HRD : Hid (Reads w4 B 1 A N ((ds.map (Value.int .u8)).take N)) := Lib.hid (by simpa using (HD.out.below' (HF4.out.below hB (fun k hk => hk)) (Nat.le_refl _)).1.take (k := N) hle)
  obtain ⟨A0, c0, e0, h1, h2⟩ := (hm4.wr 1 (by omega)).shape
  have c2 := hm4.blk.cell 6
  have f2 := hm4.blk.free 6
  have l2 := hm4.blk.lt
  dsimp only [Lay.cells] at c2
  simp only [List.getElem?_toArray, List.getElem?_cons_succ, List.getElem?_cons_zero] at c2
  rw [e0, hlb] at c2
  rw [hlb] at f2 l2
  have HROW := Lib.hid (hm4.wr 1 (by omega))
  rw [e0] at HROW
  have hL : (y.at 1).said.length ≤ 64000 := by have := HOK.out.said; have := HM.out; omega
  have hB4 : B ≤ w4.heap.size := Nat.le_trans hB HF4.out.size
  have HFIN : Hid (∀ w9 A9 c9 W, Fr (fun k => (Value.slice A0 (y.at 1).said.length c0).ownBlock = some k) w4 w9 → Row w9 B 5 1 (.slice A9 ((y.at 1).said.length + N) c9) ((y.at 1).said.length + N) ((y.at 1).said.map (Value.int .u8) ++ (ds.map (Value.int .u8)).take N) →
      (∀ k, (Value.slice A9 ((y.at 1).said.length + N) c9).ownBlock = some k → (Value.slice A0 (y.at 1).said.length c0).ownBlock = some k ∨ w4.heap.size ≤ k) → (W = w9.setCell ⟨l.lb, 6, none⟩ (.slice A9 ((y.at 1).said.length + N) c9) ∨ W = (w9.setCell ⟨l.lb, 6, none⟩ (.slice A9 ((y.at 1).said.length + N) c9)).drew) →
      LnP w B l (y.onE 1 (fun s => s.givenS ds)) (.returned (.tuple #[])) W) := Lib.hid (fun w9 A9 c9 W hf hr ho hW => by
    have em : (((y.at 1).givenS ds).said).map (Value.int .u8) = (y.at 1).said.map (Value.int .u8) ++ (ds.map (Value.int .u8)).take N := by rw [HSD.out, List.map_append, List.map_take]
    have el : (((y.at 1).givenS ds).said).length = (y.at 1).said.length + N := by rw [HSD.out, List.length_append, List.length_take]; omega
    have hf' : Fr (ownV (l4.vw 1)) w4 w9 := by rw [e0]; exact hf
    have h9 := Ln.wrote HM4.out (e := 1) (by omega) (xs := ((y.at 1).givenS ds).said) hf' (by rw [em, el]; exact hr) (fun k hk => by rw [e0]; exact ho k hk)
    rw [hlb] at h9
    have hf9 : Fr (fun k => B ≤ k) w4 (w9.setCell ⟨l.lb, 6, none⟩ (.slice A9 ((y.at 1).said.length + N) c9)) :=
      (fr_ge hf (fun k hk => (HROW.out.lt k hk).1)).setCell (p := ⟨l.lb, 6, none⟩) (fun _ => HH.out.low) _
    have fin : LnQ w B l (y.onE 1 (fun s => s.givenS ds)) (w9.setCell ⟨l.lb, 6, none⟩ (.slice A9 ((y.at 1).said.length + N) c9)) :=
      LnS.done (by omega) h9 (y.said_up (by omega) rfl) (fun i hi => (y.rdL_on (e := 1) (by omega) (f := fun s => s.givenS ds) (given_rdL _ _) i hi).symm) rfl hlg (fr_trans HF4.out hf9)
    refine ⟨rfl, ?_⟩
    rcases hW with rfl | rfl
    · exact fin
    · obtain ⟨l9, x9, g1, g0, g2, g3⟩ := fin
      have hd9 := (Below.refl (w9.setCell ⟨l.lb, 6, none⟩ (.slice A9 ((y.at 1).said.length + N) c9)).heap.size (w9.setCell ⟨l.lb, 6, none⟩ (.slice A9 ((y.at 1).said.length + N) c9))).drew
      exact ⟨l9, x9, g1, g0, Ln.grow g2 hd9, fr_trans g3 (fr_below hd9)⟩)
  have HONE := Lib.hid (u8_oneCell ds)
  have hd8 : Hid (∀ u ∈ (ds.map (Value.int .u8)).take N, u.oneCell' = true) := Lib.hid (fun u hu => HONE.out u (List.mem_of_mem_take hu))
  have HK : Hid (∀ w9, Fr (fun k => (Value.slice A0 (y.at 1).said.length c0).ownBlock = some k) w4 w9 → w9.cell? ⟨l.lb, 6, none⟩ = some (.slice A0 (y.at 1).said.length c0) ∧ (w9.frozen? ⟨l.lb, 6, none⟩ = false) ∧ l.lb < w9.heap.size) := Lib.hid (fun w9 hf => by
    have hn : ¬ (Value.slice A0 (y.at 1).said.length c0).ownBlock = some l.lb := fun e9 => by
      have := HM4.out.dis.other (i := 4) (j := 0) (q := fun k => k = l4.lb) (by exact Ln.partW l4 (e := 1) (by omega)) rfl (by omega) l.lb hlb.symm
      exact this (by unfold ownV; rw [e0]; exact e9)
    have hk := HM4.out.blk.fr hf (by rw [hlb]; exact hn)
    have q2 := hk.cell 6
    dsimp only [Lay.cells] at q2
    simp only [List.getElem?_toArray, List.getElem?_cons_succ, List.getElem?_cons_zero] at q2
    have q3 := hk.free 6
    have q4 := hk.lt
    rw [e0, hlb] at q2
    rw [hlb] at q3 q4
    exact ⟨q2, q3, q4⟩)
  have hNc : N ≤ c := by omega
  generalize (y.at 1).said.length = L at *
  generalize (y.at 1).said.map (Value.int .u8) = olds at *
  generalize (ds.map (Value.int .u8)).take N = news at *
  clear hg hm4 hf4 hk4 hdb e0 HDB HW d0 d2 hdl h1 h2
  go_wp2
  go_region_law (refine step_append_row rfl (.tmp 38) (.tmp 42) 23 rfl B 5 i0 (.int .u8 0) 1 1 Try.underlying23 ii hz0 hz1 hz2 rfl (by decide) (.slice A0 L c0) L olds (by simp [Act.eval, Act.put]) HROW.out.drew B A N c news (by simp [Act.eval, Act.put]) HRD.out.drew hd8.out (by unfold maxLen; omega) (by omega) (by simpa using hB4) ?_; intro A9 c9 w9 hr9 hg9 ho9; have hf9 : Fr (fun k => (Value.slice A0 L c0).ownBlock = some k) w4 w9 := ((Fr.refl _ w4).drew).grown hg9 (fun k e _ => e); obtain ⟨k96, kf9, kl9⟩ := HK.out w9 hf9)
  all_goals
    go_wp2
    go_end0
    exact HFIN.out w9 A9 c9 _ hf9 hr9 (fun k hk => by rcases own_cases ho9 hk with h1 | h1; exact .inl h1; simp at h1; exact .inr (by omega)) (by first | exact .inl rfl | exact .inr rfl)
set_option maxHeartbeats 4000000 in
set_option maxRecDepth 100000 in
theorem own_take0 (h : LnS w B l y x) (hok : y.Ok m) (hm : m ≤ 1000) (n : Int) (A : Option Addr) (k c : Nat) (hB : B ≤ w.heap.size) :
    Calls Try.prog 112 #[.pointer (some ⟨l.lb, 0, none⟩), .agg #[.int .i64 2, .int .i64 0, .int .i64 n, .slice A k c]] w (LnP w B l (y.onE 0 (fun s => s.takenS n))) := by
  obtain ⟨i0, ii, hz0, hz1, hz2⟩ := info_parts pu8info
  have HH := Lib.hid h
  have c0 := h.blk.cell 0
  have c1 := h.blk.cell 1
  have hl := h.blk.lt
  dsimp [Lay.cells] at c0 c1
  have HOK := Lib.hid (hok.at_ 0)
  have HM := Lib.hid hm
  clear h hok hm
  go_enter Try.func112, Try.ntmps112
  go_wp2_with fail
  have hba : Below w.heap.size w (w.alloc (.cells #[.int .i64 2, .int .i64 0, .int .i64 n, .slice A k c] 162)) := (Below.refl _ w).alloc (Nat.le_refl _) _
  have HBA := Lib.hid hba
  clear hba
  refine wp_region_near (w.heap.size + 1) (by kernel_rfl) (by kernel_rfl) ?_
  repeat (go_big_quiet_step (fail))
  refine wpQuiet_nil ?_
  intro w3 hb3
  have HB3 := Lib.hid (HBA.out.trans (hb3.mono (by simp)))
  have hdb := (Blk.new w #[.int .i64 2, .int .i64 0, .int .i64 n, .slice A k c] 162).fr (Fr.of_grow (hb3.mono (by simp))) id
  have HDB := Lib.hid hdb
  have d0 := hdb.cell 0
  have d2 := hdb.cell 2
  have d3 := hdb.cell 3
  have dl := hdb.lt
  dsimp at d0 d2 d3
  have HN : Hid (LnS w3 B l y x) := Lib.hid (Ln.grow HH.out HB3.out)
  have hB3 : Hid (B ≤ w3.heap.size) := Lib.hid (Nat.le_trans hB HB3.out.size)
  have HF3 := Lib.hid (fr_below (B := B) HB3.out)
  clear hb3 hdb c0 c1 hl HBA
  have htx := tie_takenX (HN.out.tie 0 (by omega)) HOK.out n
  have HSD := Lib.hid (taken_rdL (y.at 0) n)
  have HW := Lib.hid (readq43 (HN.out.est 0 (by omega)) hB3.out (by rw [Sm.inn_len]; exact HOK.out.rroom) n)
  rw [htx.2.1, htx.2.2.1, htx.2.2.2] at HW
  have HV : Hid (((y.at 0).takenV n).length ≤ 64) := Lib.hid (by
    unfold Sm.takenV
    split
    · rw [List.length_take, Sm.inn_len]; have := HOK.out.rroom; omega
    · simp)
  generalize (y.at 0).takenV n = vs at *
  generalize stRE (x 0) (y.at 0).inn.length n = xE at *
  have HTX := Lib.hid htx.1
  clear htx
  go_wp2_with fail
  refine HW.out.mono ?_
  rintro e w4 ⟨A5, c5, rfl, hr5, hg, hn5⟩
  obtain ⟨l4, hlb, hlg, hm4, hf4, hk4⟩ := Ln.endGo3 HN.out (e := 0) (by omega) HTX.out hg
  have HM4 := Lib.hid hm4
  have HF4 := Lib.hid (fr_trans HF3.out hf4)
  obtain ⟨A0, c0, e0, h1, h2⟩ := (hm4.rd 0 (by omega)).shape
  have c2 := hm4.blk.cell 3
  have f2 := hm4.blk.free 3
  have l2 := hm4.blk.lt
  dsimp only [Lay.cells] at c2
  simp only [List.getElem?_toArray, List.getElem?_cons_succ, List.getElem?_cons_zero] at c2
  rw [e0, hlb] at c2
  rw [hlb] at f2 l2
  have HROW := Lib.hid (hm4.rd 0 (by omega))
  rw [e0] at HROW
  have HRD := Lib.hid hr5.1
  have hL : (y.at 0).rdL.length ≤ 64000 := by
    have h1 : (y.at 0).rdL.length ≤ (y.at 0).got.length := by unfold Sm.rdL; rw [List.length_take]; omega
    have := HOK.out.got; have := HM.out; omega
  have hV : vs.length ≤ 64 := HV.out
  have hB4 : B ≤ w4.heap.size := Nat.le_trans hB HF4.out.size
  have HFIN : Hid (∀ w9 A9 c9, Fr (fun k => (Value.slice A0 (y.at 0).rdL.length c0).ownBlock = some k) w4 w9 → Row w9 B 5 1 (.slice A9 ((y.at 0).rdL.length + vs.length) c9) ((y.at 0).rdL.length + vs.length) ((y.at 0).rdL.map (Value.int .u8) ++ vs.map (Value.int .u8)) →
      (∀ k, (Value.slice A9 ((y.at 0).rdL.length + vs.length) c9).ownBlock = some k → (Value.slice A0 (y.at 0).rdL.length c0).ownBlock = some k ∨ w4.heap.size ≤ k) →
      LnP w B l (y.onE 0 (fun s => s.takenS n)) (.returned (.tuple #[])) (w9.setCell ⟨l.lb, 3, none⟩ (.slice A9 ((y.at 0).rdL.length + vs.length) c9))) := Lib.hid (fun w9 A9 c9 hf hr ho => by
    have em : (((y.at 0).takenS n).rdL).map (Value.int .u8) = (y.at 0).rdL.map (Value.int .u8) ++ vs.map (Value.int .u8) := by rw [HSD.out, List.map_append]
    have el : (((y.at 0).takenS n).rdL).length = (y.at 0).rdL.length + vs.length := by rw [HSD.out, List.length_append]
    have hf' : Fr (ownV (l4.vr 0)) w4 w9 := by rw [e0]; exact hf
    have h9 := Ln.readGo HM4.out (e := 0) (by omega) (xs := ((y.at 0).takenS n).rdL) hf' (by rw [em, el]; exact hr) (fun k hk => by rw [e0]; exact ho k hk)
    rw [hlb] at h9
    have hf9 : Fr (fun k => B ≤ k) w4 (w9.setCell ⟨l.lb, 3, none⟩ (.slice A9 ((y.at 0).rdL.length + vs.length) c9)) :=
      (fr_ge hf (fun k hk => (HROW.out.lt k hk).1)).setCell (p := ⟨l.lb, 3, none⟩) (fun _ => HH.out.low) _
    exact ⟨rfl, LnS.done (by omega) h9 (fun i hi => (y.said_on 0 (f := fun s => s.takenS n) (fun s => taken_said s n) i).symm) (y.rdL_up (by omega) rfl) rfl hlg (fr_trans HF4.out hf9)⟩)
  have HONE := Lib.hid (u8_oneCell vs)
  have HK : Hid (∀ w9, Fr (fun k => (Value.slice A0 (y.at 0).rdL.length c0).ownBlock = some k) w4 w9 → w9.cell? ⟨l.lb, 3, none⟩ = some (.slice A0 (y.at 0).rdL.length c0) ∧ (w9.frozen? ⟨l.lb, 3, none⟩ = false) ∧ l.lb < w9.heap.size) := Lib.hid (fun w9 hf => by
    have hn : ¬ (Value.slice A0 (y.at 0).rdL.length c0).ownBlock = some l.lb := fun e9 => by
      have := HM4.out.dis.other (i := 5) (j := 0) (q := fun k => k = l4.lb) (by exact Ln.partR l4 (e := 0) (by omega)) rfl (by omega) l.lb hlb.symm
      exact this (by unfold ownV; rw [e0]; exact e9)
    have hk := HM4.out.blk.fr hf (by rw [hlb]; exact hn)
    have q2 := hk.cell 3
    dsimp only [Lay.cells] at q2
    simp only [List.getElem?_toArray, List.getElem?_cons_succ, List.getElem?_cons_zero] at q2
    have q3 := hk.free 3
    have q4 := hk.lt
    rw [e0, hlb] at q2
    rw [hlb] at q3 q4
    exact ⟨q2, q3, q4⟩)
  generalize (y.at 0).rdL.length = L at *
  generalize (y.at 0).rdL.map (Value.int .u8) = olds at *
  generalize vs.map (Value.int .u8) = news at *
  generalize vs.length = N at *
  clear hg hm4 hf4 hk4 e0 HDB HW d0 d2 d3 h1 h2 hr5 hn5
  go_wp2_with (at_builtin; refine wpList_append_row _ rfl (.tmp 59) (.tmp 60) 23 rfl B 5 i0 (.int .u8 0) 1 1 Try.underlying23 ii hz0 hz1 hz2 rfl (by decide) (.slice A0 L c0) L olds rfl HROW.out w4.heap.size A5 N c5 news rfl HRD.out HONE.out (by unfold maxLen; omega) (by omega) hB4 ?_; intro A9 c9 w9 hr9 hg9 ho9; have hf9 : Fr (fun k => (Value.slice A0 L c0).ownBlock = some k) w4 w9 := (Fr.refl _ w4).grown hg9 (fun k e _ => e); obtain ⟨k96, kf9, kl9⟩ := HK.out w9 hf9; clear c2 f2 l2)
  go_end0
  exact HFIN.out w9 A9 c9 hf9 hr9 (fun k hk => by rcases own_cases ho9 hk with h1 | h1; exact .inl h1; exact .inr (by omega))
set_option maxHeartbeats 4000000 in
set_option maxRecDepth 100000 in
theorem own_take1 (h : LnS w B l y x) (hok : y.Ok m) (hm : m ≤ 1000) (n : Int) (A : Option Addr) (k c : Nat) (hB : B ≤ w.heap.size) :
    Calls Try.prog 112 #[.pointer (some ⟨l.lb, 0, none⟩), .agg #[.int .i64 2, .int .i64 1, .int .i64 n, .slice A k c]] w (LnP w B l (y.onE 1 (fun s => s.takenS n))) := by
  obtain ⟨i0, ii, hz0, hz1, hz2⟩ := info_parts pu8info
  have HH := Lib.hid h
  have c0 := h.blk.cell 0
  have c1 := h.blk.cell 1
  have hl := h.blk.lt
  dsimp [Lay.cells] at c0 c1
  have HOK := Lib.hid (hok.at_ 1)
  have HM := Lib.hid hm
  clear h hok hm
  go_enter Try.func112, Try.ntmps112
  go_wp2_with fail
  have hba : Below w.heap.size w (w.alloc (.cells #[.int .i64 2, .int .i64 1, .int .i64 n, .slice A k c] 162)) := (Below.refl _ w).alloc (Nat.le_refl _) _
  have HBA := Lib.hid hba
  clear hba
  refine wp_region_near (w.heap.size + 1) (by kernel_rfl) (by kernel_rfl) ?_
  repeat (go_big_quiet_step (fail))
  refine wpQuiet_nil ?_
  intro w3 hb3
  have HB3 := Lib.hid (HBA.out.trans (hb3.mono (by simp)))
  have hdb := (Blk.new w #[.int .i64 2, .int .i64 1, .int .i64 n, .slice A k c] 162).fr (Fr.of_grow (hb3.mono (by simp))) id
  have HDB := Lib.hid hdb
  have d0 := hdb.cell 0
  have d2 := hdb.cell 2
  have d3 := hdb.cell 3
  have dl := hdb.lt
  dsimp at d0 d2 d3
  have HN : Hid (LnS w3 B l y x) := Lib.hid (Ln.grow HH.out HB3.out)
  have hB3 : Hid (B ≤ w3.heap.size) := Lib.hid (Nat.le_trans hB HB3.out.size)
  have HF3 := Lib.hid (fr_below (B := B) HB3.out)
  clear hb3 hdb c0 c1 hl HBA
  have htx := tie_takenX (HN.out.tie 1 (by omega)) HOK.out n
  have HSD := Lib.hid (taken_rdL (y.at 1) n)
  have HW := Lib.hid (readq43 (HN.out.est 1 (by omega)) hB3.out (by rw [Sm.inn_len]; exact HOK.out.rroom) n)
  rw [htx.2.1, htx.2.2.1, htx.2.2.2] at HW
  have HV : Hid (((y.at 1).takenV n).length ≤ 64) := Lib.hid (by
    unfold Sm.takenV
    split
    · rw [List.length_take, Sm.inn_len]; have := HOK.out.rroom; omega
    · simp)
  generalize (y.at 1).takenV n = vs at *
  generalize stRE (x 1) (y.at 1).inn.length n = xE at *
  have HTX := Lib.hid htx.1
  clear htx
  go_wp2_with fail
  refine HW.out.mono ?_
  rintro e w4 ⟨A5, c5, rfl, hr5, hg, hn5⟩
  obtain ⟨l4, hlb, hlg, hm4, hf4, hk4⟩ := Ln.endGo3 HN.out (e := 1) (by omega) HTX.out hg
  have HM4 := Lib.hid hm4
  have HF4 := Lib.hid (fr_trans HF3.out hf4)
  obtain ⟨A0, c0, e0, h1, h2⟩ := (hm4.rd 1 (by omega)).shape
  have c2 := hm4.blk.cell 7
  have f2 := hm4.blk.free 7
  have l2 := hm4.blk.lt
  dsimp only [Lay.cells] at c2
  simp only [List.getElem?_toArray, List.getElem?_cons_succ, List.getElem?_cons_zero] at c2
  rw [e0, hlb] at c2
  rw [hlb] at f2 l2
  have HROW := Lib.hid (hm4.rd 1 (by omega))
  rw [e0] at HROW
  have HRD := Lib.hid hr5.1
  have hL : (y.at 1).rdL.length ≤ 64000 := by
    have h1 : (y.at 1).rdL.length ≤ (y.at 1).got.length := by unfold Sm.rdL; rw [List.length_take]; omega
    have := HOK.out.got; have := HM.out; omega
  have hV : vs.length ≤ 64 := HV.out
  have hB4 : B ≤ w4.heap.size := Nat.le_trans hB HF4.out.size
  have HFIN : Hid (∀ w9 A9 c9, Fr (fun k => (Value.slice A0 (y.at 1).rdL.length c0).ownBlock = some k) w4 w9 → Row w9 B 5 1 (.slice A9 ((y.at 1).rdL.length + vs.length) c9) ((y.at 1).rdL.length + vs.length) ((y.at 1).rdL.map (Value.int .u8) ++ vs.map (Value.int .u8)) →
      (∀ k, (Value.slice A9 ((y.at 1).rdL.length + vs.length) c9).ownBlock = some k → (Value.slice A0 (y.at 1).rdL.length c0).ownBlock = some k ∨ w4.heap.size ≤ k) →
      LnP w B l (y.onE 1 (fun s => s.takenS n)) (.returned (.tuple #[])) (w9.setCell ⟨l.lb, 7, none⟩ (.slice A9 ((y.at 1).rdL.length + vs.length) c9))) := Lib.hid (fun w9 A9 c9 hf hr ho => by
    have em : (((y.at 1).takenS n).rdL).map (Value.int .u8) = (y.at 1).rdL.map (Value.int .u8) ++ vs.map (Value.int .u8) := by rw [HSD.out, List.map_append]
    have el : (((y.at 1).takenS n).rdL).length = (y.at 1).rdL.length + vs.length := by rw [HSD.out, List.length_append]
    have hf' : Fr (ownV (l4.vr 1)) w4 w9 := by rw [e0]; exact hf
    have h9 := Ln.readGo HM4.out (e := 1) (by omega) (xs := ((y.at 1).takenS n).rdL) hf' (by rw [em, el]; exact hr) (fun k hk => by rw [e0]; exact ho k hk)
    rw [hlb] at h9
    have hf9 : Fr (fun k => B ≤ k) w4 (w9.setCell ⟨l.lb, 7, none⟩ (.slice A9 ((y.at 1).rdL.length + vs.length) c9)) :=
      (fr_ge hf (fun k hk => (HROW.out.lt k hk).1)).setCell (p := ⟨l.lb, 7, none⟩) (fun _ => HH.out.low) _
    exact ⟨rfl, LnS.done (by omega) h9 (fun i hi => (y.said_on 1 (f := fun s => s.takenS n) (fun s => taken_said s n) i).symm) (y.rdL_up (by omega) rfl) rfl hlg (fr_trans HF4.out hf9)⟩)
  have HONE := Lib.hid (u8_oneCell vs)
  have HK : Hid (∀ w9, Fr (fun k => (Value.slice A0 (y.at 1).rdL.length c0).ownBlock = some k) w4 w9 → w9.cell? ⟨l.lb, 7, none⟩ = some (.slice A0 (y.at 1).rdL.length c0) ∧ (w9.frozen? ⟨l.lb, 7, none⟩ = false) ∧ l.lb < w9.heap.size) := Lib.hid (fun w9 hf => by
    have hn : ¬ (Value.slice A0 (y.at 1).rdL.length c0).ownBlock = some l.lb := fun e9 => by
      have := HM4.out.dis.other (i := 6) (j := 0) (q := fun k => k = l4.lb) (by exact Ln.partR l4 (e := 1) (by omega)) rfl (by omega) l.lb hlb.symm
      exact this (by unfold ownV; rw [e0]; exact e9)
    have hk := HM4.out.blk.fr hf (by rw [hlb]; exact hn)
    have q2 := hk.cell 7
    dsimp only [Lay.cells] at q2
    simp only [List.getElem?_toArray, List.getElem?_cons_succ, List.getElem?_cons_zero] at q2
    have q3 := hk.free 7
    have q4 := hk.lt
    rw [e0, hlb] at q2
    rw [hlb] at q3 q4
    exact ⟨q2, q3, q4⟩)
  generalize (y.at 1).rdL.length = L at *
  generalize (y.at 1).rdL.map (Value.int .u8) = olds at *
  generalize vs.map (Value.int .u8) = news at *
  generalize vs.length = N at *
  clear hg hm4 hf4 hk4 e0 HDB HW d0 d2 d3 h1 h2 hr5 hn5
  go_wp2_with (at_builtin; refine wpList_append_row _ rfl (.tmp 59) (.tmp 60) 23 rfl B 5 i0 (.int .u8 0) 1 1 Try.underlying23 ii hz0 hz1 hz2 rfl (by decide) (.slice A0 L c0) L olds rfl HROW.out w4.heap.size A5 N c5 news rfl HRD.out HONE.out (by unfold maxLen; omega) (by omega) hB4 ?_; intro A9 c9 w9 hr9 hg9 ho9; have hf9 : Fr (fun k => (Value.slice A0 L c0).ownBlock = some k) w4 w9 := (Fr.refl _ w4).grown hg9 (fun k e _ => e); obtain ⟨k96, kf9, kl9⟩ := HK.out w9 hf9; clear c2 f2 l2)
  go_end0
  exact HFIN.out w9 A9 c9 hf9 hr9 (fun k hk => by rcases own_cases ho9 hk with h1 | h1; exact .inl h1; exact .inr (by omega))
set_option maxHeartbeats 4000000 in
set_option maxRecDepth 100000 in
theorem own_shut0 (h : LnS w B l y x) (hok : y.Ok m) (hm : m ≤ 1000) (n : Int) (A : Option Addr) (k c : Nat) (hB : B ≤ w.heap.size) :
    Calls Try.prog 112 #[.pointer (some ⟨l.lb, 0, none⟩), .agg #[.int .i64 3, .int .i64 0, .int .i64 n, .slice A k c]] w (LnP w B l (y.onE 0 Sm.closedS)) := by
  obtain ⟨i0, ii, hz0, hz1, hz2⟩ := info_parts pu8info
  have HH := Lib.hid h
  have c0 := h.blk.cell 0
  have c1 := h.blk.cell 1
  have hl := h.blk.lt
  dsimp [Lay.cells] at c0 c1
  have HOK := Lib.hid (hok.at_ 0)
  have HM := Lib.hid hm
  clear h hok hm
  go_enter Try.func112, Try.ntmps112
  go_wp2_with fail
  have hba : Below w.heap.size w (w.alloc (.cells #[.int .i64 3, .int .i64 0, .int .i64 n, .slice A k c] 162)) := (Below.refl _ w).alloc (Nat.le_refl _) _
  have HBA := Lib.hid hba
  clear hba
  refine wp_region_near (w.heap.size + 1) (by kernel_rfl) (by kernel_rfl) ?_
  repeat (go_big_quiet_step (fail))
  refine wpQuiet_nil ?_
  intro w3 hb3
  have HB3 := Lib.hid (HBA.out.trans (hb3.mono (by simp)))
  have hdb := (Blk.new w #[.int .i64 3, .int .i64 0, .int .i64 n, .slice A k c] 162).fr (Fr.of_grow (hb3.mono (by simp))) id
  have HDB := Lib.hid hdb
  have d0 := hdb.cell 0
  have d2 := hdb.cell 2
  have d3 := hdb.cell 3
  have dl := hdb.lt
  dsimp at d0 d2 d3
  have HN : Hid (LnS w3 B l y x) := Lib.hid (Ln.grow HH.out HB3.out)
  have hB3 : Hid (B ≤ w3.heap.size) := Lib.hid (Nat.le_trans hB HB3.out.size)
  have HF3 := Lib.hid (fr_below (B := B) HB3.out)
  clear hb3 hdb c0 c1 hl HBA
  have HS := Lib.hid (shut45 (HN.out.est 0 (by omega)))
  go_wp2_with fail
  refine HS.out.mono ?_
  rintro e w4 ⟨rfl, hg⟩
  have HP : Hid (LnP w B l (y.onE 0 Sm.closedS) (.returned (.tuple #[])) w4) := Lib.hid (by
    obtain ⟨t1, t2, t3⟩ := tie_closedX (HN.out.tie 0 (by omega))
    rw [t2, t3] at hg
    obtain ⟨l4, hlb, hlg, hm4, hf4, -⟩ := Ln.endGo3 HN.out (e := 0) (by omega) t1 hg
    exact ⟨rfl, LnS.done (by omega) hm4 (fun i hi => (y.said_on 0 (f := Sm.closedS) closed_said i).symm) (fun i hi => (y.rdL_on (e := 0) (by omega) (f := Sm.closedS) (closed_rdL _) i hi).symm) hlb hlg (fr_trans HF3.out hf4)⟩)
  clear hg
  go_wp2
  go_end0
  exact HP.out
set_option maxHeartbeats 4000000 in
set_option maxRecDepth 100000 in
theorem own_shut1 (h : LnS w B l y x) (hok : y.Ok m) (hm : m ≤ 1000) (n : Int) (A : Option Addr) (k c : Nat) (hB : B ≤ w.heap.size) :
    Calls Try.prog 112 #[.pointer (some ⟨l.lb, 0, none⟩), .agg #[.int .i64 3, .int .i64 1, .int .i64 n, .slice A k c]] w (LnP w B l (y.onE 1 Sm.closedS)) := by
  obtain ⟨i0, ii, hz0, hz1, hz2⟩ := info_parts pu8info
  have HH := Lib.hid h
  have c0 := h.blk.cell 0
  have c1 := h.blk.cell 1
  have hl := h.blk.lt
  dsimp [Lay.cells] at c0 c1
  have HOK := Lib.hid (hok.at_ 1)
  have HM := Lib.hid hm
  clear h hok hm
  go_enter Try.func112, Try.ntmps112
  go_wp2_with fail
  have hba : Below w.heap.size w (w.alloc (.cells #[.int .i64 3, .int .i64 1, .int .i64 n, .slice A k c] 162)) := (Below.refl _ w).alloc (Nat.le_refl _) _
  have HBA := Lib.hid hba
  clear hba
  refine wp_region_near (w.heap.size + 1) (by kernel_rfl) (by kernel_rfl) ?_
  repeat (go_big_quiet_step (fail))
  refine wpQuiet_nil ?_
  intro w3 hb3
  have HB3 := Lib.hid (HBA.out.trans (hb3.mono (by simp)))
  have hdb := (Blk.new w #[.int .i64 3, .int .i64 1, .int .i64 n, .slice A k c] 162).fr (Fr.of_grow (hb3.mono (by simp))) id
  have HDB := Lib.hid hdb
  have d0 := hdb.cell 0
  have d2 := hdb.cell 2
  have d3 := hdb.cell 3
  have dl := hdb.lt
  dsimp at d0 d2 d3
  have HN : Hid (LnS w3 B l y x) := Lib.hid (Ln.grow HH.out HB3.out)
  have hB3 : Hid (B ≤ w3.heap.size) := Lib.hid (Nat.le_trans hB HB3.out.size)
  have HF3 := Lib.hid (fr_below (B := B) HB3.out)
  clear hb3 hdb c0 c1 hl HBA
  have HS := Lib.hid (shut45 (HN.out.est 1 (by omega)))
  go_wp2_with fail
  refine HS.out.mono ?_
  rintro e w4 ⟨rfl, hg⟩
  have HP : Hid (LnP w B l (y.onE 1 Sm.closedS) (.returned (.tuple #[])) w4) := Lib.hid (by
    obtain ⟨t1, t2, t3⟩ := tie_closedX (HN.out.tie 1 (by omega))
    rw [t2, t3] at hg
    obtain ⟨l4, hlb, hlg, hm4, hf4, -⟩ := Ln.endGo3 HN.out (e := 1) (by omega) t1 hg
    exact ⟨rfl, LnS.done (by omega) hm4 (fun i hi => (y.said_on 1 (f := Sm.closedS) closed_said i).symm) (fun i hi => (y.rdL_on (e := 1) (by omega) (f := Sm.closedS) (closed_rdL _) i hi).symm) hlb hlg (fr_trans HF3.out hf4)⟩)
  clear hg
  go_wp2
  go_end0
  exact HP.out
end
end Go.Proofs.Ythlhjaacjhlkhaa
/- Contract of the line's send: both ends say what they have to say; what has no room is lost. -/
namespace Go.Proofs.Ythlhjaacjhlkhaa
open Go.RowKit
set_option maxHeartbeats 400000
set_option linter.unusedVariables false
set_option linter.unusedSimpArgs false
/-- One end says what it has to say. -/
def Sys.sayE (y : Sys) (e : Nat) : Sys := { y.onE e (fun s => s.outsO.2) with way := Sys.putW y.way (1 - e) (y.at e).outsO.1 }
theorem Sys.say_send (y : Sys) : (y.sayE 0).sayE 1 = y.send := rfl
theorem Sys.Ok.say0 {y : Sys} {m : Nat} (h : y.Ok m) : (y.sayE 0).Ok (m + 1) :=
  ⟨h.a.outs, h.b.more, Sys.putW_ok h.way (by omega) (Sm.outs_fine h.a), Sys.putW_len _ _ _⟩
theorem putW_nil {way : List (Nat × Sg)} (who : Nat) (h : way.length ≤ 64) : Sys.putW way who [] = way := by
  simp [Sys.putW, List.take_of_length_le h]
theorem putW_room {way : List (Nat × Sg)} {who : Nat} {xs : List Sg} (x : Sg) (h : (Sys.putW way who xs).length < 64) : Sys.putW way who (xs ++ [x]) = Sys.putW way who xs ++ [(who, x)] := by
  unfold Sys.putW at *
  rw [List.length_take] at h
  simp only [List.length_append, List.length_map] at h
  rw [List.map_append, ← List.append_assoc, List.take_of_length_le (by simp only [List.length_append, List.length_map, List.length_cons, List.length_nil]; omega), List.take_of_length_le (by simp only [List.length_append, List.length_map]; omega)]
  rfl
theorem putW_full {way : List (Nat × Sg)} {who : Nat} {xs : List Sg} (x : Sg) (h : ¬ (Sys.putW way who xs).length < 64) : Sys.putW way who (xs ++ [x]) = Sys.putW way who xs := by
  unfold Sys.putW at *
  rw [List.length_take] at h
  rw [List.map_append, ← List.append_assoc, List.take_append_of_le_length (by omega)]
/-- One letter more: behind the append. -/
theorem LtL.app {W W1 : World} {B : Nat} {Z Z' : Nat → Prop} {A : Option Addr} {c : Nat} {L : List (Nat × Sg)} (h : LtL W B Z (.slice A L.length c) L) (hb : Below W.heap.size W W1) (hZ : ∀ k, Z k → Z' k) (hZv : ∀ k, (Value.slice A L.length c).ownBlock = some k → ¬ Z' k) {r : Lt} (hr : r.Fine W1 Z') :
    ∃ xs, Row W1 B 171 2 (.slice A L.length c) L.length xs ∧ ∀ W2 A' c', Row W2 B 171 2 (.slice A' (L.length + 1) c') (L.length + 1) (xs ++ r.cl) → W1.grownBy W2 (Value.slice A L.length c).ownBlock → LtL W2 B Z' (.slice A' (L.length + 1) c') (L ++ [(r.who, r.sg)]) := by
  obtain ⟨rs, rfl, h1, h2⟩ := h
  have hl : (rs.map fun r => (r.who, r.sg)).length = rs.length := List.length_map ..
  rw [hl] at h1
  refine ⟨rs.flatMap Lt.cl, by rw [hl]; exact h1.grow hb, fun W2 A' c' hr2 hg => ?_⟩
  rw [hl] at hr2 hg hZv ⊢
  have hf := Fr.of_grown hg
  refine ⟨rs ++ [r], by simp, by simpa using hr2, fun q hq => ?_⟩
  rcases List.mem_append.1 hq with hq | hq
  · exact ((h2 q hq).fr (Fr.of_grow hb) (fun _ _ e => e) hZ).fr hf (fun k hk e => hZv k e hk) (fun _ e => e)
  · rw [List.mem_singleton.1 hq]
    exact hr.fr hf (fun k hk e => hZv k e hk) (fun _ e => e)
theorem SgL.fr3 {W W' : World} {B : Nat} {v : Value} {L : List Sg} {S : Nat → Prop} (h : SgL W B v L) (hf : Fr S W W') (hS : ∀ k, S k → k < B ∨ W.heap.size ≤ k) : SgL W' B v L := by
  obtain ⟨rs, e, h1, h2⟩ := h
  have key : ∀ {e : TypeId} {sz n : Nat} {v : Value} {xs : List Value}, Row W B e sz v n xs → ∀ k, v.ownBlock = some k → ¬ S k := fun hr k hk hs => by
    have := hr.lt k hk
    rcases hS k hs with h | h <;> omega
  exact ⟨rs, e, h1.fr hf (key h1), fun r hr => ⟨(h2 r hr).1.fr hf (key (h2 r hr).1), (h2 r hr).2⟩⟩
theorem SgL.max {W : World} {B n c : Nat} {A : Option Addr} {L : List Sg} (h : SgL W B (.slice A n c) L) : n ≤ 9223372036854775807 := by
  obtain ⟨rs, e, h1, h2⟩ := h
  obtain ⟨A', c', e2, h3, h4⟩ := h1.shape
  injection e2 with e3 e4 e5
  unfold maxLen at h4
  omega
/-- In the loop over what one end says: j of it are on their way. W: behind Out; N: how many blocks there were ahead of it. -/
def SendI (w : World) (B : Nat) (l : Lay) (y : Sys) (e : Nat) (W : World) (N j : Nat) (wr : World) : Prop :=
  ∃ l' x, l'.lb = l.lb ∧ l'.g = l.g ∧ Ln wr B l' (upd y.at e (y.at e).outsO.2) x (fun i => (y.at i).said) (fun i => (y.at i).rdL) (Sys.putW y.way (1 - e) ((y.at e).outsO.1.take j)) ∧ (∀ k, ownV l'.v k → k < N ∨ W.heap.size ≤ k) ∧
    Fr (fun k => k < N ∨ W.heap.size ≤ k) W wr ∧ Fr (fun k => B ≤ k) w wr
theorem SendI.start {w wr W : World} {B e m n c : Nat} {l l1 : Lay} {y : Sys} {x : Nat → EC} {x1 : EC} {A : Option Addr} (he : e < 2) (hlb : l1.lb = l.lb) (hg : l1.g = l.g) (hm : LnS wr B l1 y x) (hf : Fr (fun k => B ≤ k) w wr) (hw : y.way.length ≤ 64)
    (hO : OutS wr B (l1.g e) (l1.vo e) (l1.vi e) (y.at e) m W (.slice A n c) (y.at e).outsO.1 (y.at e).outsO.2 x1) : SendI w B l y e W wr.heap.size 0 W := by
  have hE : EGo wr B (l1.g e) (l1.vo e) (l1.vi e) x1 (y.at e).outsO.2.out (y.at e).outsO.2.inn W := by
    rw [hO.sam.out, hO.sam.inn]
    exact ⟨_, _, hO.o, hO.f.mono (fun k _ e => .inl e), fun k hk => .inl hk⟩
  obtain ⟨v1, v2, h1, h2⟩ := Ln.endGo hm he hO.tie hE
  refine ⟨{ l1 with vo := upd l1.vo e v1, vi := upd l1.vi e v2 }, _, hlb, hg, by rw [List.take_zero, putW_nil _ hw]; exact h1, fun k hk => .inl (hm.bel 7 _ rfl k hk), Fr.refl _ _, hf.trans (h2.mono (fun k _ hk => (Ob2.lt (hm.est e he) k hk).1)) (fun _ _ h => h)⟩
theorem SendI.done {w W wr : World} {B e N j : Nat} {l : Lay} {y : Sys} (he : e < 2) (hs : ∀ s : Sm, s.outsO.2.said = s.said ∧ s.outsO.2.rdL = s.rdL) (h : SendI w B l y e W N j wr) (hj : j = (y.at e).outsO.1.length) : LnQ w B l (y.sayE e) wr := by
  obtain ⟨l', x, h1, h2, h3, -, -, h6⟩ := h
  rw [hj, List.take_length] at h3
  exact ⟨l', x, h1, h2, h3.of (y.at_on he fun s => s.outsO.2) (fun i _ => (y.said_on e (fun s => (hs s).1) i).symm) (fun i hi => (y.rdL_on he (hs _).2 i hi).symm) rfl, h6⟩
/-- There is no room: the letter is lost. -/
theorem SendI.lost {w W wr W1 : World} {B e N j : Nat} {l : Lay} {y : Sys} {sg : Sg} (h : SendI w B l y e W N j wr) (hb : Below wr.heap.size wr W1) (ht : (y.at e).outsO.1.take (j + 1) = (y.at e).outsO.1.take j ++ [sg]) (hf : ¬ (Sys.putW y.way (1 - e) ((y.at e).outsO.1.take j)).length < 64) : SendI w B l y e W N (j + 1) W1 := by
  obtain ⟨l', x, h1, h2, h3, h4, h5, h6⟩ := h
  refine ⟨l', x, h1, h2, ?_, h4, h5.trans ((Fr.of_grow hb).mono (fun _ _ h => h.elim)) (fun _ _ h => h), fr_trans h6 (fr_below hb)⟩
  rw [ht, putW_full sg hf]
  exact Ln.grow h3 hb
/-- One letter more is on its way. -/
theorem SendI.more {w W wr W1 : World} {B e N j c : Nat} {l l' : Lay} {y : Sys} {sg : Sg} {A : Option Addr} {x : Nat → EC} (hNW : N ≤ W.heap.size)
    (hlb : l'.lb = l.lb) (hg : l'.g = l.g) (hm : Ln wr B l' (upd y.at e (y.at e).outsO.2) x (fun i => (y.at i).said) (fun i => (y.at i).rdL) (Sys.putW y.way (1 - e) ((y.at e).outsO.1.take j))) (hv : ∀ k, ownV l'.v k → k < N ∨ W.heap.size ≤ k) (hf : Fr (fun k => k < N ∨ W.heap.size ≤ k) W wr) (hfw : Fr (fun k => B ≤ k) w wr) (hlN : l.lb < N)
    (ht : (y.at e).outsO.1.take (j + 1) = (y.at e).outsO.1.take j ++ [sg]) (hr : (Sys.putW y.way (1 - e) ((y.at e).outsO.1.take j)).length < 64)
    (hev : l'.v = .slice A (Sys.putW y.way (1 - e) ((y.at e).outsO.1.take j)).length c) (hb : Below wr.heap.size wr W1) (r : Lt) (hrt : r.who = 1 - e) (hrs : r.sg = sg) (hfr : FreshV wr r.A r.bs.length r.c) (hrb : RB W1 W1.heap.size r.A r.bs.length r.bs) :
    ∃ xs, Row W1 B 171 2 (.slice A (Sys.putW y.way (1 - e) ((y.at e).outsO.1.take j)).length c) (Sys.putW y.way (1 - e) ((y.at e).outsO.1.take j)).length xs ∧
      ∀ W2 A' c', Row W2 B 171 2 (.slice A' ((Sys.putW y.way (1 - e) ((y.at e).outsO.1.take j)).length + 1) c') ((Sys.putW y.way (1 - e) ((y.at e).outsO.1.take j)).length + 1) (xs ++ r.cl) → W1.grownBy W2 (Value.slice A (Sys.putW y.way (1 - e) ((y.at e).outsO.1.take j)).length c).ownBlock →
        ((Value.slice A' ((Sys.putW y.way (1 - e) ((y.at e).outsO.1.take j)).length + 1) c').ownBlock = (Value.slice A (Sys.putW y.way (1 - e) ((y.at e).outsO.1.take j)).length c).ownBlock ∨ (Value.slice A' ((Sys.putW y.way (1 - e) ((y.at e).outsO.1.take j)).length + 1) c').ownBlock = some W1.heap.size) →
        SendI w B l y e W N (j + 1) (W2.setCell ⟨l.lb, 10, none⟩ (.slice A' ((Sys.putW y.way (1 - e) ((y.at e).outsO.1.take j)).length + 1) c')) := by
  have hP2 := putW_room sg hr
  rw [← ht] at hP2
  generalize hP : Sys.putW y.way (1 - e) ((y.at e).outsO.1.take j) = P at *
  have hway := hm.way
  rw [hev] at hway
  obtain ⟨B0, hB0⟩ : ∃ Z' : Nat → Prop, Z' = fun k => l'.z k ∨ r.v.ownBlock = some k := ⟨_, rfl⟩
  have hlv : ∀ k, (Value.slice A P.length c).ownBlock = some k → k < wr.heap.size := fun k hk => hm.bel 7 _ rfl k (by show l'.v.ownBlock = some k; rw [hev]; exact hk)
  have hrv : ∀ k, r.v.ownBlock = some k → wr.heap.size ≤ k ∧ k < W1.heap.size ∨ r.bs.length = 0 := fun k hk => by
    rcases Nat.eq_zero_or_pos r.bs.length with h0 | h0
    · exact .inr h0
    · obtain ⟨b, o, e1, hbl, _⟩ := hrb.1.2 h0
      have h1 := hfr.2.2 k hk
      unfold Lt.v at hk
      rw [e1] at hk
      injection hk with hk
      subst hk
      exact .inl ⟨h1, hbl⟩
  have hrl : r.bs.length ≠ 0 := by rw [Lt.bs_len]; omega
  have hrv : ∀ k, r.v.ownBlock = some k → wr.heap.size ≤ k ∧ k < W1.heap.size := fun k hk => (hrv k hk).resolve_right hrl
  obtain ⟨xs, h1, h2⟩ := hway.app hb (Z' := B0) (fun k hk => by rw [hB0]; exact .inl hk) (fun k hk e0 => by
    rw [hB0] at e0
    rcases e0 with e0 | e0
    · exact hm.dis.other (i := 7) (j := 8) rfl rfl (by omega) k e0 (by show l'.v.ownBlock = some k; rw [hev]; exact hk)
    · have := hlv k hk; have := hrv k e0; omega) (r := r) ⟨hrb, ⟨hfr.1, hfr.2.1⟩, fun k hk => by rw [hB0]; exact .inr hk⟩
  refine ⟨xs, h1, fun W2 A' c' hr2 hg2 ho2 => ?_⟩
  have h3 := h2 W2 A' c' hr2 hg2
  rw [hrt, hrs] at h3
  have hfv : Fr (ownV l'.v) wr W2 := ((Fr.of_grow hb).mono (S' := ownV l'.v) (fun _ _ h => h.elim)).grown hg2 (fun k hk _ => by show l'.v.ownBlock = some k; rw [hev]; exact hk)
  have hW1 := hb.size
  have hgs := hg2.size
  have h4 := Ln.wayGo hm (v := .slice A' (P.length + 1) c') (z' := B0) hfv h3 (fun k hk => by
      rcases own_cases ho2 hk with h5 | h5
      · exact .inl (by show l'.v.ownBlock = some k; rw [hev]; exact h5)
      · exact .inr (by omega))
    (fun k hk => by rw [hB0] at hk; rcases hk with h5 | h5; exact .inl h5; exact .inr (hrv k h5).1)
    (fun k hk => by
      rw [hB0] at hk
      rcases hk with h5 | h5
      · have := hm.bel 8 _ rfl k h5; omega
      · have := (hrv k h5).2; omega)
    (fun k hk h5 => by
      rw [hB0] at h5
      rcases own_cases ho2 hk with h6 | h6
      · rcases h5 with h5 | h5
        · exact hm.dis.other (i := 7) (j := 8) rfl rfl (by omega) k h5 (by show l'.v.ownBlock = some k; rw [hev]; exact h6)
        · have := hlv k h6; have := hrv k h5; omega
      · subst h6
        rcases h5 with h5 | h5
        · have := hm.bel 8 _ rfl _ h5; omega
        · have := (hrv _ h5).2; omega)
  rw [hlb] at h4
  rw [← hP2] at h4
  refine ⟨{ l' with v := .slice A' (P.length + 1) c', z := B0 }, x, hlb, hg, ?_, fun k hk => ?_, ?_, ?_⟩
  · rw [← hlb] at h4 ⊢
    exact h4
  · have hk : (Value.slice A' (P.length + 1) c').ownBlock = some k := hk
    rcases own_cases ho2 hk with h6 | h6
    · exact hv k (by show l'.v.ownBlock = some k; rw [hev]; exact h6)
    · have := hf.size; exact .inr (by omega)
  · exact (hf.trans hfv (fun k _ hk => hv k hk)).setCell (p := ⟨l.lb, 10, none⟩) (fun _ => .inl hlN) _
  · have hlow := hm.low
    rw [hlb] at hlow
    exact (hfw.trans hfv (fun k _ hk => by
      have h7 : (Value.slice A P.length c).ownBlock = some k := by rw [← hev]; exact hk
      exact (h1.lt k h7).1)).setCell (p := ⟨l.lb, 10, none⟩) (fun _ => hlow) _
theorem outs_said (s : Sm) : s.outsO.2.said = s.said ∧ s.outsO.2.rdL = s.rdL := by
  have hloop : ∀ (lim f : Nat) (s : Sm), (Sm.loopO lim f s).2.said = s.said ∧ (Sm.loopO lim f s).2.rdL = s.rdL := fun lim f => by
    induction f with
    | zero => intro s; exact ⟨rfl, rfl⟩
    | succ f ih =>
      intro s
      unfold Sm.loopO
      split
      · exact ih (s.sayS _)
      · exact ⟨rfl, rfl⟩
  have hfin : ∀ s : Sm, (Sm.finO s).2.said = s.said ∧ (Sm.finO s).2.rdL = s.rdL := fun s => by unfold Sm.finO; split <;> exact ⟨rfl, rfl⟩
  have hdue : ∀ s : Sm, (Sm.dueO s).2.said = s.said ∧ (Sm.dueO s).2.rdL = s.rdL := fun s => by unfold Sm.dueO; split <;> exact ⟨rfl, rfl⟩
  unfold Sm.outsO
  split
  · have h1 := hloop s.limitN 64 s
    have h2 := hfin (Sm.loopO s.limitN 64 s).2
    have h3 := hdue (Sm.finO (Sm.loopO s.limitN 64 s).2).2
    exact ⟨h3.1.trans (h2.1.trans h1.1), h3.2.trans (h2.2.trans h1.2)⟩
  · unfold Sm.synO
    split <;> exact ⟨rfl, rfl⟩
theorem idx157a (a b : Value) (W : World) : (Instr.index 157 (.agg #[a, b]) (.int .i64 0)).run Try.prog W = .ok a W := by kernel_rfl
theorem idx157b (a b : Value) (W : World) : (Instr.index 157 (.agg #[a, b]) (.int .i64 1)).run Try.prog W = .ok b W := by kernel_rfl
/-- Behind the append the line's cell still holds the elder slice. -/
theorem send_cell {wr w6 w9 : World} {B P c7 lb : Nat} {l2 : Lay} {S : Nat → Sm} {x : Nat → EC} {tw tr : Nat → List Int} {way : List (Nat × Sg)} {A7 : Option Addr} {o : Obj} (hb : Below wr.heap.size wr w6) (hg : (w6.alloc o).grownBy w9 (Value.slice A7 P c7).ownBlock) (hm : Ln wr B l2 S x tw tr way) (hlb : l2.lb = lb) (he : l2.v = .slice A7 P c7) :
    w9.cell? ⟨lb, 10, none⟩ = some (.slice A7 P c7) ∧ w9.frozen? ⟨lb, 10, none⟩ = false ∧ lb < w9.heap.size := by
  have hbk := ((hm.grow hb).blk.alloc o).grown hg (fun e => by
    have := hm.dis.other (i := 7) (j := 0) rfl rfl (by omega) l2.lb rfl
    exact this (by show l2.v.ownBlock = some l2.lb; rw [he]; exact e.symm))
  have h10 := hbk.cell 10
  dsimp only [Lay.cells] at h10
  simp only [List.getElem?_toArray, List.getElem?_cons_succ, List.getElem?_cons_zero] at h10
  rw [he, hlb] at h10
  have f := hbk.free 10
  have g := hbk.lt
  rw [hlb] at f g
  exact ⟨h10, f, g⟩
theorem reads_new2 (w : World) (cs : Array Value) (t : TypeId) (size : Nat) (hs : cs.size = size) : Reads (w.alloc (.cells cs t)) (w.heap.size + 1) size (some ⟨w.heap.size, 0, none⟩) 1 cs.toList := reads_new w cs t size hs
section
variable {w : World} {B : Nat} {l : Lay} {y : Sys} {x : Nat → EC} {m : Nat}
set_option maxHeartbeats 8000000 in
set_option maxRecDepth 100000 in
theorem send_any (h : LnS w B l y x) (hok : y.Ok m) (hm : m + 1 ≤ 1000) (hB : B ≤ w.heap.size) : Calls Try.prog 111 #[.pointer (some ⟨l.lb, 0, none⟩)] w (LnP w B l y.send) := by
  obtain ⟨i0, hi, hz0, hz1, hz2⟩ := info_parts pletinfo
  have HQ0 : Hid (LnQ w B l y w) := Lib.hid ⟨l, x, rfl, rfl, h, Fr.refl _ _⟩
  have HQ2 := Lib.hid y.say_send
  have c0 := h.blk.cell 0
  have c1 := h.blk.cell 1
  have hl := h.blk.lt
  dsimp [Lay.cells] at c0 c1
  have HLB := Lib.hid hl
  have HOK0 := Lib.hid hok
  have HOK1 := Lib.hid hok.say0
  have HM := Lib.hid hm
  have HB := Lib.hid hB
  clear h hok hm hB
  go_enter Try.func111, Try.ntmps111
  go_wp2_with fail
  generalize hg0 : l.g 0 = g0 at *
  generalize hg1 : l.g 1 = g1 at *
  have HG0 := Lib.hid hg0
  have HG1 := Lib.hid hg1
  clear c0 c1 hl hg0 hg1
  have hix0 := idx157a (.pointer (some ⟨g0, 0, none⟩)) (.pointer (some ⟨g1, 0, none⟩))
  have hix1 := idx157b (.pointer (some ⟨g0, 0, none⟩)) (.pointer (some ⟨g1, 0, none⟩))
  go_loopw [12] (fun v wr => ∃ z : Int, v = .int .i64 z ∧ ((z = 0 ∧ Hid (LnQ w B l y wr)) ∨ (z = 1 ∧ Hid (LnQ w B l (y.sayE 0) wr)) ∨ (z = 2 ∧ Hid (LnQ w B l y.send wr)))) (fun v _ => 2 - (intOf v).toNat)
  case atStart => exact ⟨0, rfl, .inl ⟨rfl, HQ0⟩⟩
  case round =>
    obtain ⟨z, rfl, hz⟩ := hrel
    obtain ⟨W0, hW0⟩ : ∃ W0, W0 = wr := ⟨_, rfl⟩
    subst hW0
    rcases hz with ⟨rfl, HQ⟩ | ⟨rfl, HQ⟩ | ⟨rfl, HQ⟩
    · obtain ⟨l1, x1, hlb, hlg, hm1, hfw⟩ := HQ.out
      have HO := Lib.hid (out50 (m := m + 0) (hm1.est 0 (by omega)) (hm1.tie 0 (by omega)) (Nat.le_trans HB.out hfw.size) (HOK0.out.at_ 0) (by have := HM.out; omega))
      have HS0 := Lib.hid (fun W A n c x1' => SendI.start (w := w) (W := W) (A := A) (n := n) (c := c) (m := m + 0) (x1 := x1') (l := l) (e := 0) (by omega) hlb hlg hm1 hfw HOK0.out.len)
      have HLL : Hid (l.lb < W0.heap.size) := Lib.hid (Nat.lt_of_lt_of_le HLB.out hfw.size)
      have hge : l1.g 0 = g0 := by rw [hlg]; exact HG0.out
      rw [hge] at HO HS0
      generalize l1.vo 0 = vo at *
      generalize l1.vi 0 = vi at *
      have HFI := Lib.hid (Sm.outs_fine (HOK0.out.at_ 0))
      clear hm1 hge
      go_wp2_with fail
      refine HO.out.mono ?_
      rintro e5 w5 ⟨A5, c5, x5, rfl, hO⟩
      have HI0 := Lib.hid (HS0.out w5 A5 _ c5 x5 hO)
      have HSG := Lib.hid hO.l
      have HSZ := Lib.hid hO.f.size
      have hnm := hO.l.max
      obtain ⟨n, hn⟩ : ∃ n, (y.at 0).outsO.1.length = n := ⟨_, rfl⟩
      rw [hn] at HSG hnm ⊢
      have HN := Lib.hid hn
      clear hO hn HO HS0
      go_wp2_with fail
      go_loopw [19] (fun v wr => ∃ j : Nat, j ≤ n ∧ v = .int .i64 j ∧ Hid (SendI w B l y 0 w5 W0.heap.size j wr)) (fun v _ => n - (intOf v).toNat)
      case atStart => exact ⟨0, by omega, rfl, HI0⟩
      case round =>
        obtain ⟨j, hj, rfl, HJ⟩ := hrel
        by_cases hlt : j < n
        · have HJ2 := HJ.out
          obtain ⟨l2, x2, hlb2, hlg2, hm2, hv2, hf2, hfw2⟩ := HJ2
          obtain ⟨b, o, A4, c4, rfl, hbl, hrb, k0, k1, k2, k3, k4⟩ := (HSG.out.fr3 hf2 (fun k hk => hk)).rd.2.at_ (k := j) (by rw [HN.out]; exact hlt)
          have hj5 : (j : Int) < n := by omega
          have hjl : j < (y.at 0).outsO.1.length := by rw [HN.out]; exact hlt
          have hsg : (y.at 0).outsO.1.getD j Sg0 = (y.at 0).outsO.1[j] := by simp [List.getD, List.getElem?_eq_getElem hjl]
          have HFS : Hid (((y.at 0).outsO.1.getD j Sg0).Fine) := Lib.hid (by rw [hsg]; exact HFI.out _ (List.getElem_mem hjl))
          have HT : Hid ((y.at 0).outsO.1.take (j + 1) = (y.at 0).outsO.1.take j ++ [(y.at 0).outsO.1.getD j Sg0]) := Lib.hid (by rw [hsg, List.take_succ_eq_append_getElem hjl])
          clear hsg hjl
          generalize (y.at 0).outsO.1.getD j Sg0 = sg at *
          obtain ⟨q1, q2, q3, q4, ds⟩ := sg
          dsimp only at hrb k0 k1 k2 k3 k4
          rw [Nat.add_zero] at k0
          have HE := Lib.hid (fun W (hW : Below wr.heap.size wr W) => encode_ok q1 q2 q3 q4 A4 ds.length c4 ds W HFS.out.seq HFS.out.ack HFS.out.flags HFS.out.window HFS.out.len ((hrb.below' hW (Nat.le_refl _)).more hW.size))
          have HM2 := Lib.hid hm2
          have HV2 := Lib.hid hv2
          have HF2 := Lib.hid hf2
          have HFW2 := Lib.hid hfw2
          clear hm2 hv2 hf2 hfw2 hrb
          go_wp2_with fail
          refine (HE.out _ ((Below.refl wr.heap.size wr).alloc (Nat.le_refl _) _)).mono ?_
          rintro e6 w6 ⟨A6, m6, c6, rfl, hr6, hb6, hf6⟩
          have hb60 : Below wr.heap.size wr w6 := ((Below.refl wr.heap.size wr).alloc (Nat.le_refl _) _).trans (hb6.mono (by simp))
          have HB6 := Lib.hid hb60
          have hlen6 := hr6.len
          subst hlen6
          have HFR : Hid (FreshV wr A6 (encI q1 q2 q3 q4 ds).length c6) := Lib.hid ⟨hf6.1, hf6.2.1, fun k hk => by have := hf6.2.2 k hk; simp at this; omega⟩
          have HR6 := Lib.hid hr6
          have hg6 := Ln.grow HM2.out hb60
          have h10 := hg6.blk.cell 10
          have f10 := hg6.blk.free 10
          have l10 := hg6.blk.lt
          dsimp only [Lay.cells] at h10
          simp only [List.getElem?_toArray, List.getElem?_cons_succ, List.getElem?_cons_zero] at h10
          obtain ⟨A7, c7, e7, h7, h8⟩ := HM2.out.way.shape
          rw [e7, hlb2] at h10
          rw [hlb2] at f10 l10
          have HW64 : Hid ((Sys.putW y.way (1 - 0) ((y.at 0).outsO.1.take j)).length ≤ 64) := Lib.hid (Sys.putW_len _ _ _)
          have HE7 := Lib.hid e7
          clear hb60 hr6 hb6 hf6 hg6 k0 k1 k2 k3 k4 e7 HE hix0 hix1
          by_cases hroom : (Sys.putW y.way (1 - 0) ((y.at 0).outsO.1.take j)).length < 64
          · have hbW : Below wr.heap.size wr (w6.alloc (.cells #[.int .i64 1, .slice A6 (encI q1 q2 q3 q4 ds).length c6] 171)) := HB6.out.alloc HB6.out.size _
            obtain ⟨xs, hrow, hnext⟩ := SendI.more (w := w) (W := w5) (N := W0.heap.size) HSZ.out hlb2 hlg2 HM2.out HV2.out HF2.out HFW2.out HLL.out HT.out hroom HE7.out hbW ⟨1 - 0, ⟨q1, q2, q3, q4, ds⟩, A6, c6⟩ rfl rfl HFR.out ((HR6.out.alloc (Nat.le_refl _) _).more (by simp))
            have HROW := Lib.hid hrow
            have HNX := Lib.hid hnext
            have t2 : ((Sys.putW y.way (1 - 0) ((y.at 0).outsO.1.take j)).length : Int) < 64 := by omega
            have t1 := decide_eq_true t2
            clear hrow hnext hbW
            generalize hP : (Sys.putW y.way (1 - 0) ((y.at 0).outsO.1.take j)).length = P at *
            have HHP := Lib.hid hP
            clear hP
            go_wp2_with (at_builtin; refine wpList_append_row _ rfl (.tmp 42) (.tmp 47) 158 rfl B 171 i0 (.agg #[.int .i64 0, .slice none 0 0]) 2 32 Try.underlying158 hi hz0 hz1 hz2 rfl (by decide) (.slice A7 P c7) P xs rfl HROW.out (w6.heap.size + 1) (some ⟨w6.heap.size, 0, none⟩) 1 1 [.int .i64 1, .slice A6 (encI q1 q2 q3 q4 ds).length c6] rfl ?c1 ?c3 (by unfold maxLen; omega) (by omega) ?c2 ?_; rotate_left; skip)
            case c1 => exact reads_new2 w6 #[.int .i64 1, .slice A6 (encI q1 q2 q3 q4 ds).length c6] 171 2 rfl
            case c3 => intro u hu; simp at hu; rcases hu with rfl | rfl <;> rfl
            case c2 => have := HB6.out.size; have := HFW2.out.size; have := HB.out; simp; omega
            intro A9 c9 w9 hr9 hg9 ho9
            have HN9 := Lib.hid (HNX.out w9 A9 c9 hr9 hg9 (by simpa using ho9))
            obtain ⟨c10, f109, l109⟩ := send_cell HB6.out hg9 HM2.out hlb2 HE7.out
            clear hr9 hg9 ho9 h10 f10 l10
            go_wp2
            go_roundw
            case rel => exact ⟨j + 1, by omega, by go_num, HN9⟩
            case measure => simp [intOf]; omega
          · have HL9 := Lib.hid (SendI.lost HJ.out HB6.out HT.out hroom)
            have t2 : ¬ ((Sys.putW y.way (1 - 0) ((y.at 0).outsO.1.take j)).length : Int) < 64 := by omega
            have t1 := decide_eq_false t2
            clear hroom
            generalize (Sys.putW y.way (1 - 0) ((y.at 0).outsO.1.take j)).length = P at *
            go_wp2
            go_roundw
            case rel => exact ⟨j + 1, by omega, by go_num, HL9⟩
            case measure => simp [intOf]; omega
        · obtain rfl : j = n := by omega
          have HD := Lib.hid (SendI.done (by omega) outs_said HJ.out HN.out.symm)
          go_wp2
          go_roundw
          case rel => exact ⟨1, rfl, .inr (.inl ⟨rfl, HD⟩)⟩
          case measure => simp [intOf]
    · obtain ⟨l1, x1, hlb, hlg, hm1, hfw⟩ := HQ.out
      have HO := Lib.hid (out50 (m := m + 1) (hm1.est 1 (by omega)) (hm1.tie 1 (by omega)) (Nat.le_trans HB.out hfw.size) (HOK1.out.at_ 1) (by have := HM.out; omega))
      have HS0 := Lib.hid (fun W A n c x1' => SendI.start (w := w) (W := W) (A := A) (n := n) (c := c) (m := m + 1) (x1 := x1') (l := l) (e := 1) (by omega) hlb hlg hm1 hfw HOK1.out.len)
      have HLL : Hid (l.lb < W0.heap.size) := Lib.hid (Nat.lt_of_lt_of_le HLB.out hfw.size)
      have hge : l1.g 1 = g1 := by rw [hlg]; exact HG1.out
      rw [hge] at HO HS0
      generalize l1.vo 1 = vo at *
      generalize l1.vi 1 = vi at *
      have HFI := Lib.hid (Sm.outs_fine (HOK1.out.at_ 1))
      clear hm1 hge
      go_wp2_with fail
      refine HO.out.mono ?_
      rintro e5 w5 ⟨A5, c5, x5, rfl, hO⟩
      have HI0 := Lib.hid (HS0.out w5 A5 _ c5 x5 hO)
      have HSG := Lib.hid hO.l
      have HSZ := Lib.hid hO.f.size
      have hnm := hO.l.max
      obtain ⟨n, hn⟩ : ∃ n, ((y.sayE 0).at 1).outsO.1.length = n := ⟨_, rfl⟩
      rw [hn] at HSG hnm ⊢
      have HN := Lib.hid hn
      clear hO hn HO HS0
      go_wp2_with fail
      go_loopw [19] (fun v wr => ∃ j : Nat, j ≤ n ∧ v = .int .i64 j ∧ Hid (SendI w B l (y.sayE 0) 1 w5 W0.heap.size j wr)) (fun v _ => n - (intOf v).toNat)
      case atStart => exact ⟨0, by omega, rfl, HI0⟩
      case round =>
        obtain ⟨j, hj, rfl, HJ⟩ := hrel
        by_cases hlt : j < n
        · have HJ2 := HJ.out
          obtain ⟨l2, x2, hlb2, hlg2, hm2, hv2, hf2, hfw2⟩ := HJ2
          obtain ⟨b, o, A4, c4, rfl, hbl, hrb, k0, k1, k2, k3, k4⟩ := (HSG.out.fr3 hf2 (fun k hk => hk)).rd.2.at_ (k := j) (by rw [HN.out]; exact hlt)
          have hj5 : (j : Int) < n := by omega
          have hjl : j < ((y.sayE 0).at 1).outsO.1.length := by rw [HN.out]; exact hlt
          have hsg : ((y.sayE 0).at 1).outsO.1.getD j Sg0 = ((y.sayE 0).at 1).outsO.1[j] := by simp [List.getD, List.getElem?_eq_getElem hjl]
          have HFS : Hid ((((y.sayE 0).at 1).outsO.1.getD j Sg0).Fine) := Lib.hid (by rw [hsg]; exact HFI.out _ (List.getElem_mem hjl))
          have HT : Hid (((y.sayE 0).at 1).outsO.1.take (j + 1) = ((y.sayE 0).at 1).outsO.1.take j ++ [((y.sayE 0).at 1).outsO.1.getD j Sg0]) := Lib.hid (by rw [hsg, List.take_succ_eq_append_getElem hjl])
          clear hsg hjl
          generalize ((y.sayE 0).at 1).outsO.1.getD j Sg0 = sg at *
          obtain ⟨q1, q2, q3, q4, ds⟩ := sg
          dsimp only at hrb k0 k1 k2 k3 k4
          rw [Nat.add_zero] at k0
          have HE := Lib.hid (fun W (hW : Below wr.heap.size wr W) => encode_ok q1 q2 q3 q4 A4 ds.length c4 ds W HFS.out.seq HFS.out.ack HFS.out.flags HFS.out.window HFS.out.len ((hrb.below' hW (Nat.le_refl _)).more hW.size))
          have HM2 := Lib.hid hm2
          have HV2 := Lib.hid hv2
          have HF2 := Lib.hid hf2
          have HFW2 := Lib.hid hfw2
          clear hm2 hv2 hf2 hfw2 hrb
          go_wp2_with fail
          refine (HE.out _ ((Below.refl wr.heap.size wr).alloc (Nat.le_refl _) _)).mono ?_
          rintro e6 w6 ⟨A6, m6, c6, rfl, hr6, hb6, hf6⟩
          have hb60 : Below wr.heap.size wr w6 := ((Below.refl wr.heap.size wr).alloc (Nat.le_refl _) _).trans (hb6.mono (by simp))
          have HB6 := Lib.hid hb60
          have hlen6 := hr6.len
          subst hlen6
          have HFR : Hid (FreshV wr A6 (encI q1 q2 q3 q4 ds).length c6) := Lib.hid ⟨hf6.1, hf6.2.1, fun k hk => by have := hf6.2.2 k hk; simp at this; omega⟩
          have HR6 := Lib.hid hr6
          have hg6 := Ln.grow HM2.out hb60
          have h10 := hg6.blk.cell 10
          have f10 := hg6.blk.free 10
          have l10 := hg6.blk.lt
          dsimp only [Lay.cells] at h10
          simp only [List.getElem?_toArray, List.getElem?_cons_succ, List.getElem?_cons_zero] at h10
          obtain ⟨A7, c7, e7, h7, h8⟩ := HM2.out.way.shape
          rw [e7, hlb2] at h10
          rw [hlb2] at f10 l10
          have HW64 : Hid ((Sys.putW (y.sayE 0).way (1 - 1) (((y.sayE 0).at 1).outsO.1.take j)).length ≤ 64) := Lib.hid (Sys.putW_len _ _ _)
          have HE7 := Lib.hid e7
          clear hb60 hr6 hb6 hf6 hg6 k0 k1 k2 k3 k4 e7 HE hix0 hix1
          by_cases hroom : (Sys.putW (y.sayE 0).way (1 - 1) (((y.sayE 0).at 1).outsO.1.take j)).length < 64
          · have hbW : Below wr.heap.size wr (w6.alloc (.cells #[.int .i64 0, .slice A6 (encI q1 q2 q3 q4 ds).length c6] 171)) := HB6.out.alloc HB6.out.size _
            obtain ⟨xs, hrow, hnext⟩ := SendI.more (w := w) (W := w5) (N := W0.heap.size) HSZ.out hlb2 hlg2 HM2.out HV2.out HF2.out HFW2.out HLL.out HT.out hroom HE7.out hbW ⟨1 - 1, ⟨q1, q2, q3, q4, ds⟩, A6, c6⟩ rfl rfl HFR.out ((HR6.out.alloc (Nat.le_refl _) _).more (by simp))
            have HROW := Lib.hid hrow
            have HNX := Lib.hid hnext
            have t2 : ((Sys.putW (y.sayE 0).way (1 - 1) (((y.sayE 0).at 1).outsO.1.take j)).length : Int) < 64 := by omega
            have t1 := decide_eq_true t2
            clear hrow hnext hbW
            generalize hP : (Sys.putW (y.sayE 0).way (1 - 1) (((y.sayE 0).at 1).outsO.1.take j)).length = P at *
            have HHP := Lib.hid hP
            clear hP
            go_wp2_with (at_builtin; refine wpList_append_row _ rfl (.tmp 42) (.tmp 47) 158 rfl B 171 i0 (.agg #[.int .i64 0, .slice none 0 0]) 2 32 Try.underlying158 hi hz0 hz1 hz2 rfl (by decide) (.slice A7 P c7) P xs rfl HROW.out (w6.heap.size + 1) (some ⟨w6.heap.size, 0, none⟩) 1 1 [.int .i64 0, .slice A6 (encI q1 q2 q3 q4 ds).length c6] rfl ?c1 ?c3 (by unfold maxLen; omega) (by omega) ?c2 ?_; rotate_left; skip)
            case c1 => exact reads_new2 w6 #[.int .i64 0, .slice A6 (encI q1 q2 q3 q4 ds).length c6] 171 2 rfl
            case c3 => intro u hu; simp at hu; rcases hu with rfl | rfl <;> rfl
            case c2 => have := HB6.out.size; have := HFW2.out.size; have := HB.out; simp; omega
            intro A9 c9 w9 hr9 hg9 ho9
            have HN9 := Lib.hid (HNX.out w9 A9 c9 hr9 hg9 (by simpa using ho9))
            obtain ⟨c10, f109, l109⟩ := send_cell HB6.out hg9 HM2.out hlb2 HE7.out
            clear hr9 hg9 ho9 h10 f10 l10
            go_wp2
            go_roundw
            case rel => exact ⟨j + 1, by omega, by go_num, HN9⟩
            case measure => simp [intOf]; omega
          · have HL9 := Lib.hid (SendI.lost HJ.out HB6.out HT.out hroom)
            have t2 : ¬ ((Sys.putW (y.sayE 0).way (1 - 1) (((y.sayE 0).at 1).outsO.1.take j)).length : Int) < 64 := by omega
            have t1 := decide_eq_false t2
            clear hroom
            generalize (Sys.putW (y.sayE 0).way (1 - 1) (((y.sayE 0).at 1).outsO.1.take j)).length = P at *
            go_wp2
            go_roundw
            case rel => exact ⟨j + 1, by omega, by go_num, HL9⟩
            case measure => simp [intOf]; omega
        · obtain rfl : j = n := by omega
          have HD := Lib.hid (SendI.done (by omega) outs_said HJ.out HN.out.symm)
          go_wp2
          go_roundw
          case rel => exact ⟨2, rfl, .inr (.inr ⟨rfl, HD⟩)⟩
          case measure => simp [intOf]
    · have HP : Hid (LnP w B l y.send (.returned (.tuple #[])) W0) := Lib.hid ⟨rfl, HQ.out⟩
      go_wp2
      go_end0
      exact HP.out
end
end Go.Proofs.Ythlhjaacjhlkhaa
/- Contract of the line's deed: a deed to what is on its way. -/
namespace Go.Proofs.Ythlhjaacjhlkhaa
open Go.RowKit
set_option maxHeartbeats 400000
set_option linter.unusedVariables false
set_option linter.unusedSimpArgs false
theorem data_keeps (s : Sm) (x : Sg) : (s.dataS x).said = s.said ∧ (s.dataS x).rd = s.rd ∧ ((s.dataS x).got = s.got ∨ (s.dataS x).got = s.got ++ x.dat) := by
  unfold Sm.dataS
  split
  · exact ⟨rfl, rfl, .inl rfl⟩
  · split
    · exact ⟨rfl, rfl, .inr rfl⟩
    · exact ⟨rfl, rfl, .inl rfl⟩
theorem answer_keeps (s : Sm) (x : Sg) : (s.answerS x).said = s.said ∧ (s.answerS x).rd = s.rd ∧ (s.answerS x).got = s.got := by
  unfold Sm.answerS
  split <;> exact ⟨rfl, rfl, rfl⟩
theorem came_keeps (s : Sm) (x : Sg) : (s.cameS x).said = s.said ∧ (s.cameS x).rd = s.rd ∧ ((s.cameS x).got = s.got ∨ (s.cameS x).got = s.got ++ x.dat) := by
  unfold Sm.cameS
  split
  · exact ⟨rfl, rfl, .inl rfl⟩
  split
  · split <;> exact ⟨rfl, rfl, .inl rfl⟩
  split
  · split <;> exact ⟨rfl, rfl, .inl rfl⟩
  split
  · split <;> exact ⟨rfl, rfl, .inl rfl⟩
  split
  · split
    · exact ⟨rfl, rfl, .inl rfl⟩
    · split
      · exact data_keeps _ _
      · exact ⟨rfl, rfl, .inl rfl⟩
  · split
    · exact data_keeps _ _
    · have h1 := answer_keeps s x
      have h2 := data_keeps (s.answerS x) x
      rw [h1.1, h1.2.1, h1.2.2] at h2
      exact h2
theorem came_said (s : Sm) (x : Sg) : (s.cameS x).said = s.said := (came_keeps s x).1
theorem came_rdL {s : Sm} {m : Nat} (h : s.Ok m) (x : Sg) : (s.cameS x).rdL = s.rdL := by
  obtain ⟨h1, h2, h3⟩ := came_keeps s x
  unfold Sm.rdL
  rw [h2]
  rcases h3 with e | e
  · rw [e]
  · rw [e, List.take_append_of_le_length h.rd]
theorem fine_check {x : Sg} (h : x.Fine) : checkI x.flags x.window x.dat.length = 0 := by
  have h1 := h.flags; have h2 := h.window; have h3 := h.len
  unfold checkI
  rw [if_neg (by omega), if_neg (by omega)]
theorem Lt.cl_len (r : Lt) : r.cl.length = 2 := rfl
/-- The letter at a place. -/
theorem Ln.letter {w : World} {B : Nat} {l : Lay} {S : Nat → Sm} {x : Nat → EC} {tw tr : Nat → List Int} {way : List (Nat × Sg)} (h : Ln w B l S x tw tr way) {i : Nat} {p : Nat × Sg} (hi : way[i]? = some p) :
    ∃ (r : Lt) (b o c : Nat), l.v = .slice (some ⟨b, o, none⟩) way.length c ∧ way.length ≤ c ∧ c ≤ maxLen ∧ r.who = p.1 ∧ r.sg = p.2 ∧ r.Fine w l.z ∧ b < w.heap.size ∧ i < way.length ∧ w.cell? ⟨b, o + i * 2, none⟩ = some (.int .i64 r.who) ∧ w.cell? ⟨b, o + i * 2 + 1, none⟩ = some (.slice r.A r.bs.length r.c) := by
  obtain ⟨A, c, ev, hc1, hc2⟩ := h.way.shape
  obtain ⟨rs, e, h1, h2⟩ := h.way
  have hl : rs.length = way.length := by rw [← e, List.length_map]
  have hlt : i < way.length := (List.getElem?_eq_some_iff.1 hi).1
  rw [ev, hl] at h1
  obtain ⟨b, o, e1, hb, hm, hc⟩ := RS.at_ (n := way.length) Lt.cl_len ⟨0, Sg0, none, 0⟩ ⟨h1.reads, hl⟩ hlt
  have hil : i < rs.length := by rw [hl]; exact hlt
  have er : rs.getD i ⟨0, Sg0, none, 0⟩ = rs[i] := by simp [List.getD, List.getElem?_eq_getElem hil]
  rw [er] at hc hm
  have ep : p = (rs[i].who, rs[i].sg) := by
    rw [← e, List.getElem?_map, List.getElem?_eq_getElem hil] at hi
    simpa using hi.symm
  subst e1
  exact ⟨rs[i], b, o, c, ev, hc1, hc2, by rw [ep], by rw [ep], h2 _ hm, hb, hlt, hc 0 _ rfl, hc 1 _ rfl⟩
/-- One letter is taken out: clone, delete, store. -/
theorem Ln.erase {w : World} {B : Nat} {l : Lay} {S : Nat → Sm} {x : Nat → EC} {tw tr : Nat → List Int} {way : List (Nat × Sg)} (h : Ln w B l S x tw tr way) (hB : B ≤ w.heap.size) (i : Nat) (hlen : way.length ≤ 64) :
    ∃ A c xs, l.v = .slice A way.length c ∧ Reads w w.heap.size 2 A way.length xs ∧ (∀ u ∈ xs, u.oneCell' = true) ∧ ∀ W1 W2 g o c5, w.heap.size ≤ g → Below w.heap.size w W1 →
      Row W2 w.heap.size 171 2 (.slice (some ⟨g, o, none⟩) (way.length - 1) c5) (way.length - 1) (xs.take (i * 2) ++ xs.drop ((i + 1) * 2)) → Fr (fun k => k = g) W1 W2 → i < way.length →
      Ln (W2.setCell ⟨l.lb, 10, none⟩ (.slice (some ⟨g, o, none⟩) (way.length - 1) c5)) B { l with v := .slice (some ⟨g, o, none⟩) (way.length - 1) c5, z := l.z } S x tw tr (way.eraseIdx i) := by
  obtain ⟨A, c, ev, hc1, hc2⟩ := h.way.shape
  obtain ⟨rs, e, h1, h2⟩ := h.way
  have hl : rs.length = way.length := by rw [← e, List.length_map]
  have h1' := h1
  rw [ev, hl] at h1'
  refine ⟨A, c, rs.flatMap Lt.cl, ev, h1'.reads, lts_one rs, fun W1 W2 g o c5 hg hb hr2 hf hi => ?_⟩
  have hfw : Fr (fun k => w.heap.size ≤ k) w W2 := ((Fr.of_grow hb).mono (fun _ _ h => h.elim)).trans hf (fun k hk e => by omega)
  have hsz := hb.size
  have hsz2 := hf.size
  refine h.wayGo (hfw.mono (fun k hk e => by omega)) ⟨rs.eraseIdx i, ?_, ?_, fun r hr => ?_⟩ (fun k hk => .inr ?_) (fun k hk => .inl hk) (fun k hk => by have := h.bel 8 _ rfl k hk; omega) (fun k hk hz => ?_)
  · rw [← e]
    rw [List.eraseIdx_eq_take_drop_succ, List.eraseIdx_eq_take_drop_succ, List.map_append, List.map_take, List.map_drop]
  · rw [lts_erase] at hr2
    have hle : (rs.eraseIdx i).length = way.length - 1 := by rw [List.length_eraseIdx_of_lt (by omega), hl]
    rw [hle]
    exact hr2.base_le hB
  · exact (h2 r (List.mem_of_mem_eraseIdx hr)).fr hfw (fun k hk e => by have := h.bel 8 _ rfl k hk; omega) (fun _ e => e)
  · simp [Value.ownBlock] at hk; omega
  · have := h.bel 8 _ rfl k hz
    simp [Value.ownBlock] at hk; omega
/-- A letter that is on its way is there twice. -/
theorem Ln.copyGo {wr W1 : World} {B : Nat} {l : Lay} {S : Nat → Sm} {x : Nat → EC} {tw tr : Nat → List Int} {way : List (Nat × Sg)} {A : Option Addr} {c : Nat} (hm : Ln wr B l S x tw tr way) (hev : l.v = .slice A way.length c) (hb : Below wr.heap.size wr W1) (r : Lt) (hrf : r.Fine wr l.z) :
    ∃ xs, Row W1 B 171 2 (.slice A way.length c) way.length xs ∧ ∀ W2 A' c', Row W2 B 171 2 (.slice A' (way.length + 1) c') (way.length + 1) (xs ++ r.cl) → W1.grownBy W2 (Value.slice A way.length c).ownBlock →
        ((Value.slice A' (way.length + 1) c').ownBlock = (Value.slice A way.length c).ownBlock ∨ (Value.slice A' (way.length + 1) c').ownBlock = some W1.heap.size) →
        Ln (W2.setCell ⟨l.lb, 10, none⟩ (.slice A' (way.length + 1) c')) B { l with v := .slice A' (way.length + 1) c', z := l.z } S x tw tr (way ++ [(r.who, r.sg)]) ∧ Fr (fun k => B ≤ k) wr (W2.setCell ⟨l.lb, 10, none⟩ (.slice A' (way.length + 1) c')) := by
  have hway := hm.way
  rw [hev] at hway
  have hlv : ∀ k, (Value.slice A way.length c).ownBlock = some k → k < wr.heap.size ∧ ¬ l.z k := fun k hk => by
    have e : l.v.ownBlock = some k := by rw [hev]; exact hk
    exact ⟨hm.bel 7 _ rfl k e, fun hz => hm.dis.other (i := 7) (j := 8) rfl rfl (by omega) k hz e⟩
  obtain ⟨xs, h1, h2⟩ := hway.app hb (Z' := l.z) (fun k hk => hk) (fun k hk => (hlv k hk).2) (r := r) (hrf.fr (Fr.of_grow hb) (fun _ _ e => e) (fun _ e => e))
  refine ⟨xs, h1, fun W2 A' c' hr2 hg2 ho2 => ?_⟩
  have h3 := h2 W2 A' c' hr2 hg2
  have hfv : Fr (ownV l.v) wr W2 := ((Fr.of_grow hb).mono (S' := ownV l.v) (fun _ _ h => h.elim)).grown hg2 (fun k hk _ => by show l.v.ownBlock = some k; rw [hev]; exact hk)
  have hW1 := hb.size
  have hgs := hg2.size
  refine ⟨Ln.wayGo hm (v := .slice A' (way.length + 1) c') (z' := l.z) hfv h3 (fun k hk => by
      rcases own_cases ho2 hk with h5 | h5
      · exact .inl (by show l.v.ownBlock = some k; rw [hev]; exact h5)
      · exact .inr (by omega))
    (fun k hk => .inl hk)
    (fun k hk => by have := hm.bel 8 _ rfl k hk; omega)
    (fun k hk h5 => by
      rcases own_cases ho2 hk with h6 | h6
      · exact (hlv k h6).2 h5
      · have := hm.bel 8 _ rfl _ h5; omega), ?_⟩
  exact (hfv.mono (fun k _ hk => by
    have h7 : (Value.slice A way.length c).ownBlock = some k := by rw [← hev]; exact hk
    exact (h1.lt k h7).1)).setCell (p := ⟨l.lb, 10, none⟩) (fun _ => hm.low) _
theorem grown_drew {w w' : World} {r : Option Nat} (h : w.drew.grownBy w' r) : w.grownBy w' r := ⟨h.os, h.tape, h.output, h.size, h.block⟩
theorem step_call_gow {P : Program} {ops : Array Oper} {o : Oper} {a : Act} {w : World} {K : Act → World → Prop} {Q : Exit → Act → World → Prop} {E : Prop} (hgd : o.guard = none) (f : FuncId) (xs : Array Operand) (ats : Array TypeId)
    (ho : o.op = .call { callee := .value (.func f), args := xs, argTypes := ats }) (args : Array Value) (hargs : xs.map a.eval = args) (hrun : (callFunc f args).run P w = .ok (.enter f args) w) (Φ : Value → World → Prop)
    (hC : Calls P f args w fun e w' => ∃ v, e = .returned v ∧ Φ v w') (h : ∀ v w', Φ v w' → K (a.put o.dst v) w') : if Region.wanted o (yielded ops a.tmps) = true then Oper.wp P o a w K Q else E := by
  have hw : Region.wanted o (yielded ops a.tmps) = true := by simp [Region.wanted, hgd]
  rw [if_pos hw]
  unfold Oper.wp
  have e : execOp a.eval o = callFunc f args := by
    obtain ⟨dst, op, ty, pos, after, guard⟩ := o
    dsimp only at ho
    subst ho
    rw [execOp_call_go, hargs]
    simp
  rw [e, hrun, Oper.upon_enter]
  refine hC.mono ?_
  rintro e' w' ⟨v, rfl, hΦ⟩
  exact h v w' hΦ
theorem run118 (args : Array Value) (w : World) : (callFunc 118 args).run Try.prog w = .ok (.enter 118 args) w := by
  have h := Try.func118
  simp [callFunc, go_sem, h, Try.f118]
theorem run117 (args : Array Value) (w : World) : (callFunc 117 args).run Try.prog w = .ok (.enter 117 args) w := by
  have h := Try.func117
  simp [callFunc, go_sem, h, Try.f117]
theorem run52w (args : Array Value) (w : World) : (callFunc 52 args).run Try.prog w = .ok (.enter 52 args) w := by
  have h := Try.func52
  simp [callFunc, go_sem, h, Try.f52]
section
variable {w : World} {B : Nat} {l : Lay} {y : Sys} {x : Nat → EC} {m : Nat}
set_option maxHeartbeats 4000000 in
set_option maxRecDepth 100000 in
theorem deed_copy (h : LnS w B l y x) (hok : y.Ok m) (hm : m ≤ 1000) (hB : B ≤ w.heap.size) (ee : Int) (i : Nat) (p : Nat × Sg) (hi : y.way[i]? = some p) (hr : y.way.length < 64) (A : Option Addr) (k c : Nat) :
    Calls Try.prog 113 #[.pointer (some ⟨l.lb, 0, none⟩), .agg #[.int .i64 6, .int .i64 ee, .int .i64 i, .slice A k c]] w (LnP w B l (y.wayD 6 i p)) := by
  obtain ⟨i0, hinf, hz0, hz1, hz2⟩ := info_parts pletinfo
  obtain ⟨r, b, o, c7, ev, hc1, hc2, hrt, hrs, hrf, hbl, hlt, kb0, kb1⟩ := h.letter hi
  have HH := Lib.hid h
  have HOK := Lib.hid hok
  have HM := Lib.hid hm
  have HRF := Lib.hid hrf
  have HRT := Lib.hid hrt
  have HRS := Lib.hid hrs
  have HI := Lib.hid hi
  have HEV := Lib.hid ev
  have HB := Lib.hid hB
  have hw64 := hok.len
  have hrN := hr
  clear hr
  have c10 := h.blk.cell 10
  have hl := h.blk.lt
  dsimp only [Lay.cells] at c10
  simp only [List.getElem?_toArray, List.getElem?_cons_succ, List.getElem?_cons_zero] at c10
  rw [ev] at c10
  have hiI : (i : Int) < y.way.length := by omega
  have hi0 : (0 : Int) ≤ (i : Int) := by omega
  have HC2 := Lib.hid hc2
  have HLL := Lib.hid hl
  have HLW := Lib.hid hl
  have HOB := Lib.hid (fun i' hi' k hk => (Ob2.lt (h.est i' hi') k hk).2)
  have HC1 := Lib.hid hc1
  have HLT := Lib.hid hlt
  have HBL := Lib.hid hbl
  generalize hN : y.way.length = N at *
  have HN := Lib.hid hN
  clear h hok hm hrf hi ev hrt hrs hN hB hc1 hc2 hlt
  obtain ⟨W0, hW0⟩ : ∃ W0, W0 = w.alloc (.cells #[.int .i64 6, .int .i64 ee, .int .i64 i, .slice A k c] 162) := ⟨_, rfl⟩
  have hb0 : Below w.heap.size w W0 := by rw [hW0]; exact (Below.refl _ w).alloc (Nat.le_refl _) _
  have hs0 : W0.heap.size = w.heap.size + 1 := by rw [hW0]; simp
  have hbk : Blk W0 w.heap.size #[.int .i64 6, .int .i64 ee, .int .i64 i, .slice A k c] 162 := by rw [hW0]; exact Blk.new _ _ _
  have j10 := (hb0.cell (p := ⟨l.lb, 10, none⟩) hl).trans c10
  have jb0 := (hb0.cell (p := ⟨b, o + i * 2, none⟩) hbl).trans kb0
  have jb1 := (hb0.cell (p := ⟨b, o + i * 2 + 1, none⟩) hbl).trans kb1
  have d0 := hbk.cell 0
  have d2 := hbk.cell 2
  have dl := hbk.lt
  dsimp at d0 d2
  have hl0 : l.lb < W0.heap.size := by omega
  have hbl0 : b < W0.heap.size := by omega
  go_enter Try.func113, Try.ntmps113
  go_wp2_with fail
  rw [← hW0]
  have HB0 := Lib.hid hb0
  have HS0 := Lib.hid hs0
  have HBK := Lib.hid hbk
  clear hW0 c10 kb0 kb1 hl hbl hb0 hbk
  have nn1 := World.new_ne W0 _ j10
  have nn2 := World.new_ne W0 _ d2
  have nn3 := World.new_ne W0 _ jb0
  have nn4 := World.new_ne W0 _ jb1
  go_region_held3 (fun w' => w'.cell? ⟨l.lb, 10, none⟩ = some (.slice (some ⟨b, o, none⟩) N c7) ∧ w'.cell? ⟨w.heap.size, 2, none⟩ = some (.int .i64 i) ∧ w'.cell? ⟨b, o + i * 2, none⟩ = some (.int .i64 r.who) ∧ w'.cell? ⟨b, o + i * 2 + 1, none⟩ = some (.slice r.A r.bs.length r.c)) (go_keep) (fail)
  obtain ⟨W1, hW1⟩ : ∃ W1, W1 = (W0.alloc (.cells #[.int .i64 r.who, .slice r.A r.bs.length r.c] 171)).drew := ⟨_, rfl⟩
  rw [← hW1]
  have hs1 : W1.heap.size = w.heap.size + 1 + 1 := by rw [hW1]; simp; exact HS0.out
  have hb1 : Below w.heap.size w W1 := by rw [hW1]; exact (HB0.out.alloc (by have := HS0.out; omega) _).drew
  have hxk : Blk W1 (w.heap.size + 1) #[.int .i64 r.who, .slice r.A r.bs.length r.c] 171 := by rw [hW1, ← HS0.out]; exact (Blk.new _ _ _).drew
  have hdk : Blk W1 w.heap.size #[.int .i64 6, .int .i64 ee, .int .i64 i, .slice A k c] 162 := by rw [hW1]; exact (HBK.out.alloc _).drew
  have HB1 := Lib.hid hb1
  have HS1 := Lib.hid hs1
  have HXK := Lib.hid hxk
  have HDK := Lib.hid hdk
  have HN1 : Hid (LnS W1 B l y x) := Lib.hid (Ln.grow HH.out hb1)
  have hRF1 : Hid (r.Fine W1 l.z) := Lib.hid (HRF.out.fr (Fr.of_grow hb1) (fun _ _ e => e) (fun _ e => e))
  clear hW1 j10 jb0 jb1 d0 d2 dl hl0 hbl0 nn1 nn2 nn3 nn4 hb1 HB0 HS0 HBK HRF HH hs0
  have c10 := HN1.out.blk.cell 10
  have f10 := HN1.out.blk.free 10
  have l10 := HN1.out.blk.lt
  dsimp only [Lay.cells] at c10
  simp only [List.getElem?_toArray, List.getElem?_cons_succ, List.getElem?_cons_zero] at c10
  rw [HEV.out] at c10
  have x0 := hxk.cell 0
  have x1 := hxk.cell 1
  have xl := hxk.lt
  have d0 := hdk.cell 0
  have d2 := hdk.cell 2
  have dl := hdk.lt
  dsimp at x0 x1 d0 d2
  clear hxk hdk hs1
  obtain ⟨xs, hrow, hnext⟩ := Ln.copyGo HN1.out (W1 := (W1.alloc (.cells #[.int .i64 r.who, .slice r.A r.bs.length r.c] 171)).drew) (by rw [HN.out]; exact HEV.out) (((Below.refl _ _).alloc (Nat.le_refl _) _).drew) r hRF1.out
  rw [HN.out] at hrow hnext
  have HROW := Lib.hid hrow
  have HWD : Hid (y.wayD 6 i p = { y with way := y.way ++ [(r.who, r.sg)] }) := Lib.hid (by
    unfold Sys.wayD
    rw [if_pos rfl, if_pos (by rw [HN.out]; exact hrN), HRT.out, HRS.out])
  have HFIN : Hid (∀ W2 A' c', Row W2 B 171 2 (.slice A' (N + 1) c') (N + 1) (xs ++ r.cl) → (W1.alloc (.cells #[.int .i64 r.who, .slice r.A r.bs.length r.c] 171)).drew.grownBy W2 (Value.slice (some ⟨b, o, none⟩) N c7).ownBlock →
      ((Value.slice A' (N + 1) c').ownBlock = (Value.slice (some ⟨b, o, none⟩) N c7).ownBlock ∨ (Value.slice A' (N + 1) c').ownBlock = some (W1.heap.size + 1)) → LnP w B l (y.wayD 6 i p) (.returned (.tuple #[])) (W2.setCell ⟨l.lb, 10, none⟩ (.slice A' (N + 1) c'))) := Lib.hid (fun W2 A' c' h1 h2 h3 => by
    obtain ⟨h4, h5⟩ := hnext W2 A' c' h1 h2 (by simpa using h3)
    refine ⟨rfl, { l with v := .slice A' (N + 1) c', z := l.z }, x, rfl, rfl, ?_, fr_trans (fr_below HB1.out) h5⟩
    rw [HWD.out]
    exact h4)
  have HSC := Lib.hid (fun w9 (hg : (W1.alloc (.cells #[.int .i64 r.who, .slice r.A r.bs.length r.c] 171)).drew.grownBy w9 (Value.slice (some ⟨b, o, none⟩) N c7).ownBlock) => send_cell (o := .cells #[.int .i64 r.who, .slice r.A r.bs.length r.c] 171) (Below.refl _ W1) (grown_drew hg) HN1.out rfl HEV.out)
  have HSX := Lib.hid (fun w9 (hg : (W1.alloc (.cells #[.int .i64 r.who, .slice r.A r.bs.length r.c] 171)).drew.grownBy w9 (Value.slice (some ⟨b, o, none⟩) N c7).ownBlock) => ((HXK.out.alloc (.cells #[.int .i64 r.who, .slice r.A r.bs.length r.c] 171)).drew).grown hg (fun e => by simp [Value.ownBlock] at e; have := HBL.out; omega))
  have t2 : (N : Int) < 64 := by omega
  have t1 := decide_eq_true t2
  clear hrow hnext
  go_wp2_with fail
  have nn1 := World.new_ne W1 _ c10
  have nn2 := World.new_ne W1 _ x0
  have nn3 := World.new_ne W1 _ x1
  go_region_law (refine step_append_row rfl (.tmp 29) (.tmp 31) 158 rfl B 171 i0 (.agg #[.int .i64 0, .slice none 0 0]) 2 32 Try.underlying158 hinf hz0 hz1 hz2 rfl (by decide) (.slice (some ⟨b, o, none⟩) N c7) N xs (by simp [Act.eval, Act.put]) HROW.out (W1.heap.size + 1) (some ⟨W1.heap.size, 0, none⟩) 1 1 [.int .i64 r.who, .slice r.A r.bs.length r.c] (by simp [Act.eval, Act.put]) (reads_new2 W1 #[.int .i64 r.who, .slice r.A r.bs.length r.c] 171 2 rfl).drew (by intro u hu; simp at hu; rcases hu with rfl | rfl <;> rfl) (by unfold maxLen; omega) (by omega) (by have := HB1.out.size; have := HB.out; simp; omega) ?_; intro A9 c9 w9 hr9 hg9 ho9; obtain ⟨k10, kf10, kl10⟩ := HSC.out w9 hg9; have kx := HSX.out w9 hg9; have kx0 : w9.cell? ⟨w.heap.size + 1, 0, none⟩ = some (.int .i64 r.who) := kx.cell 0; have kx1 : w9.cell? ⟨w.heap.size + 1, 1, none⟩ = some (.slice r.A r.bs.length r.c) := kx.cell 1; have HF9 := Lib.hid (HFIN.out w9 A9 c9 hr9 hg9 (by simpa using ho9)); clear hr9 hg9 ho9 kx)
  all_goals
    go_wp2
    go_end0
    exact HF9.out
set_option maxHeartbeats 4000000 in
set_option maxRecDepth 100000 in
theorem deed_full (h : LnS w B l y x) (hok : y.Ok m) (hm : m ≤ 1000) (hB : B ≤ w.heap.size) (ee : Int) (i : Nat) (p : Nat × Sg) (hi : y.way[i]? = some p) (hr : ¬ y.way.length < 64) (A : Option Addr) (k c : Nat) :
    Calls Try.prog 113 #[.pointer (some ⟨l.lb, 0, none⟩), .agg #[.int .i64 6, .int .i64 ee, .int .i64 i, .slice A k c]] w (LnP w B l (y.wayD 6 i p)) := by
  obtain ⟨i0, hinf, hz0, hz1, hz2⟩ := info_parts pletinfo
  obtain ⟨r, b, o, c7, ev, hc1, hc2, hrt, hrs, hrf, hbl, hlt, kb0, kb1⟩ := h.letter hi
  have HH := Lib.hid h
  have HOK := Lib.hid hok
  have HM := Lib.hid hm
  have HRF := Lib.hid hrf
  have HRT := Lib.hid hrt
  have HRS := Lib.hid hrs
  have HI := Lib.hid hi
  have HEV := Lib.hid ev
  have HB := Lib.hid hB
  have hw64 := hok.len
  have hrN := hr
  clear hr
  have c10 := h.blk.cell 10
  have hl := h.blk.lt
  dsimp only [Lay.cells] at c10
  simp only [List.getElem?_toArray, List.getElem?_cons_succ, List.getElem?_cons_zero] at c10
  rw [ev] at c10
  have hiI : (i : Int) < y.way.length := by omega
  have hi0 : (0 : Int) ≤ (i : Int) := by omega
  have HC2 := Lib.hid hc2
  have HLL := Lib.hid hl
  have HLW := Lib.hid hl
  have HOB := Lib.hid (fun i' hi' k hk => (Ob2.lt (h.est i' hi') k hk).2)
  have HC1 := Lib.hid hc1
  have HLT := Lib.hid hlt
  have HBL := Lib.hid hbl
  generalize hN : y.way.length = N at *
  have HN := Lib.hid hN
  clear h hok hm hrf hi ev hrt hrs hN hB hc1 hc2 hlt
  obtain ⟨W0, hW0⟩ : ∃ W0, W0 = w.alloc (.cells #[.int .i64 6, .int .i64 ee, .int .i64 i, .slice A k c] 162) := ⟨_, rfl⟩
  have hb0 : Below w.heap.size w W0 := by rw [hW0]; exact (Below.refl _ w).alloc (Nat.le_refl _) _
  have hs0 : W0.heap.size = w.heap.size + 1 := by rw [hW0]; simp
  have hbk : Blk W0 w.heap.size #[.int .i64 6, .int .i64 ee, .int .i64 i, .slice A k c] 162 := by rw [hW0]; exact Blk.new _ _ _
  have j10 := (hb0.cell (p := ⟨l.lb, 10, none⟩) hl).trans c10
  have jb0 := (hb0.cell (p := ⟨b, o + i * 2, none⟩) hbl).trans kb0
  have jb1 := (hb0.cell (p := ⟨b, o + i * 2 + 1, none⟩) hbl).trans kb1
  have d0 := hbk.cell 0
  have d2 := hbk.cell 2
  have dl := hbk.lt
  dsimp at d0 d2
  have hl0 : l.lb < W0.heap.size := by omega
  have hbl0 : b < W0.heap.size := by omega
  go_enter Try.func113, Try.ntmps113
  go_wp2_with fail
  rw [← hW0]
  have HB0 := Lib.hid hb0
  have HS0 := Lib.hid hs0
  have HBK := Lib.hid hbk
  clear hW0 c10 kb0 kb1 hl hbl hb0 hbk
  have nn1 := World.new_ne W0 _ j10
  have nn2 := World.new_ne W0 _ d2
  have nn3 := World.new_ne W0 _ jb0
  have nn4 := World.new_ne W0 _ jb1
  go_region_held3 (fun w' => w'.cell? ⟨l.lb, 10, none⟩ = some (.slice (some ⟨b, o, none⟩) N c7) ∧ w'.cell? ⟨w.heap.size, 2, none⟩ = some (.int .i64 i) ∧ w'.cell? ⟨b, o + i * 2, none⟩ = some (.int .i64 r.who) ∧ w'.cell? ⟨b, o + i * 2 + 1, none⟩ = some (.slice r.A r.bs.length r.c)) (go_keep) (fail)
  obtain ⟨W1, hW1⟩ : ∃ W1, W1 = (W0.alloc (.cells #[.int .i64 r.who, .slice r.A r.bs.length r.c] 171)).drew := ⟨_, rfl⟩
  rw [← hW1]
  have hs1 : W1.heap.size = w.heap.size + 1 + 1 := by rw [hW1]; simp; exact HS0.out
  have hb1 : Below w.heap.size w W1 := by rw [hW1]; exact (HB0.out.alloc (by have := HS0.out; omega) _).drew
  have hxk : Blk W1 (w.heap.size + 1) #[.int .i64 r.who, .slice r.A r.bs.length r.c] 171 := by rw [hW1, ← HS0.out]; exact (Blk.new _ _ _).drew
  have hdk : Blk W1 w.heap.size #[.int .i64 6, .int .i64 ee, .int .i64 i, .slice A k c] 162 := by rw [hW1]; exact (HBK.out.alloc _).drew
  have HB1 := Lib.hid hb1
  have HS1 := Lib.hid hs1
  have HXK := Lib.hid hxk
  have HDK := Lib.hid hdk
  have HN1 : Hid (LnS W1 B l y x) := Lib.hid (Ln.grow HH.out hb1)
  have hRF1 : Hid (r.Fine W1 l.z) := Lib.hid (HRF.out.fr (Fr.of_grow hb1) (fun _ _ e => e) (fun _ e => e))
  clear hW1 j10 jb0 jb1 d0 d2 dl hl0 hbl0 nn1 nn2 nn3 nn4 hb1 HB0 HS0 HBK HRF HH hs0
  have c10 := HN1.out.blk.cell 10
  have f10 := HN1.out.blk.free 10
  have l10 := HN1.out.blk.lt
  dsimp only [Lay.cells] at c10
  simp only [List.getElem?_toArray, List.getElem?_cons_succ, List.getElem?_cons_zero] at c10
  rw [HEV.out] at c10
  have x0 := hxk.cell 0
  have x1 := hxk.cell 1
  have xl := hxk.lt
  have d0 := hdk.cell 0
  have d2 := hdk.cell 2
  have dl := hdk.lt
  dsimp at x0 x1 d0 d2
  clear hxk hdk hs1
  have HP : Hid (LnP w B l (y.wayD 6 i p) (.returned (.tuple #[])) W1) := Lib.hid ⟨rfl, l, x, rfl, rfl, by
    unfold Sys.wayD
    rw [if_pos rfl, if_neg (by rw [HN.out]; exact hrN)]
    exact HN1.out, fr_below HB1.out⟩
  have t2 : ¬ (N : Int) < 64 := by omega
  have t1 := decide_eq_false t2
  clear hrN
  go_wp2
  go_end0
  exact HP.out
set_option maxHeartbeats 4000000 in
set_option maxRecDepth 100000 in
theorem deed_lose (h : LnS w B l y x) (hok : y.Ok m) (hm : m ≤ 1000) (hB : B ≤ w.heap.size) (ee : Int) (i : Nat) (p : Nat × Sg) (hi : y.way[i]? = some p) (A : Option Addr) (k c : Nat) :
    Calls Try.prog 113 #[.pointer (some ⟨l.lb, 0, none⟩), .agg #[.int .i64 5, .int .i64 ee, .int .i64 i, .slice A k c]] w (LnP w B l (y.wayD 5 i p)) := by
  obtain ⟨i0, hinf, hz0, hz1, hz2⟩ := info_parts pletinfo
  obtain ⟨r, b, o, c7, ev, hc1, hc2, hrt, hrs, hrf, hbl, hlt, kb0, kb1⟩ := h.letter hi
  have HH := Lib.hid h
  have HOK := Lib.hid hok
  have HM := Lib.hid hm
  have HRF := Lib.hid hrf
  have HRT := Lib.hid hrt
  have HRS := Lib.hid hrs
  have HI := Lib.hid hi
  have HEV := Lib.hid ev
  have HB := Lib.hid hB
  have hw64 := hok.len
  have c10 := h.blk.cell 10
  have hl := h.blk.lt
  dsimp only [Lay.cells] at c10
  simp only [List.getElem?_toArray, List.getElem?_cons_succ, List.getElem?_cons_zero] at c10
  rw [ev] at c10
  have hiI : (i : Int) < y.way.length := by omega
  have hi0 : (0 : Int) ≤ (i : Int) := by omega
  have HC2 := Lib.hid hc2
  have HLL := Lib.hid hl
  have HLW := Lib.hid hl
  have HOB := Lib.hid (fun i' hi' k hk => (Ob2.lt (h.est i' hi') k hk).2)
  have HC1 := Lib.hid hc1
  have HLT := Lib.hid hlt
  have HBL := Lib.hid hbl
  generalize hN : y.way.length = N at *
  have HN := Lib.hid hN
  clear h hok hm hrf hi ev hrt hrs hN hB hc1 hc2 hlt
  obtain ⟨W0, hW0⟩ : ∃ W0, W0 = w.alloc (.cells #[.int .i64 5, .int .i64 ee, .int .i64 i, .slice A k c] 162) := ⟨_, rfl⟩
  have hb0 : Below w.heap.size w W0 := by rw [hW0]; exact (Below.refl _ w).alloc (Nat.le_refl _) _
  have hs0 : W0.heap.size = w.heap.size + 1 := by rw [hW0]; simp
  have hbk : Blk W0 w.heap.size #[.int .i64 5, .int .i64 ee, .int .i64 i, .slice A k c] 162 := by rw [hW0]; exact Blk.new _ _ _
  have j10 := (hb0.cell (p := ⟨l.lb, 10, none⟩) hl).trans c10
  have jb0 := (hb0.cell (p := ⟨b, o + i * 2, none⟩) hbl).trans kb0
  have jb1 := (hb0.cell (p := ⟨b, o + i * 2 + 1, none⟩) hbl).trans kb1
  have d0 := hbk.cell 0
  have d2 := hbk.cell 2
  have dl := hbk.lt
  dsimp at d0 d2
  have hl0 : l.lb < W0.heap.size := by omega
  have hbl0 : b < W0.heap.size := by omega
  go_enter Try.func113, Try.ntmps113
  go_wp2_with fail
  rw [← hW0]
  have HB0 := Lib.hid hb0
  have HS0 := Lib.hid hs0
  have HBK := Lib.hid hbk
  clear hW0 c10 kb0 kb1 hl hbl hb0 hbk
  have nn1 := World.new_ne W0 _ j10
  have nn2 := World.new_ne W0 _ d2
  have nn3 := World.new_ne W0 _ jb0
  have nn4 := World.new_ne W0 _ jb1
  go_region_held3 (fun w' => w'.cell? ⟨l.lb, 10, none⟩ = some (.slice (some ⟨b, o, none⟩) N c7) ∧ w'.cell? ⟨w.heap.size, 2, none⟩ = some (.int .i64 i) ∧ w'.cell? ⟨b, o + i * 2, none⟩ = some (.int .i64 r.who) ∧ w'.cell? ⟨b, o + i * 2 + 1, none⟩ = some (.slice r.A r.bs.length r.c)) (go_keep) (fail)
  obtain ⟨W1, hW1⟩ : ∃ W1, W1 = (W0.alloc (.cells #[.int .i64 r.who, .slice r.A r.bs.length r.c] 171)).drew := ⟨_, rfl⟩
  rw [← hW1]
  have hs1 : W1.heap.size = w.heap.size + 1 + 1 := by rw [hW1]; simp; exact HS0.out
  have hb1 : Below w.heap.size w W1 := by rw [hW1]; exact (HB0.out.alloc (by have := HS0.out; omega) _).drew
  have hxk : Blk W1 (w.heap.size + 1) #[.int .i64 r.who, .slice r.A r.bs.length r.c] 171 := by rw [hW1, ← HS0.out]; exact (Blk.new _ _ _).drew
  have hdk : Blk W1 w.heap.size #[.int .i64 5, .int .i64 ee, .int .i64 i, .slice A k c] 162 := by rw [hW1]; exact (HBK.out.alloc _).drew
  have HB1 := Lib.hid hb1
  have HS1 := Lib.hid hs1
  have HXK := Lib.hid hxk
  have HDK := Lib.hid hdk
  have HN1 : Hid (LnS W1 B l y x) := Lib.hid (Ln.grow HH.out hb1)
  have hRF1 : Hid (r.Fine W1 l.z) := Lib.hid (HRF.out.fr (Fr.of_grow hb1) (fun _ _ e => e) (fun _ e => e))
  clear hW1 j10 jb0 jb1 d0 d2 dl hl0 hbl0 nn1 nn2 nn3 nn4 hb1 HB0 HS0 HBK HRF HH hs0
  have c10 := HN1.out.blk.cell 10
  have f10 := HN1.out.blk.free 10
  have l10 := HN1.out.blk.lt
  dsimp only [Lay.cells] at c10
  simp only [List.getElem?_toArray, List.getElem?_cons_succ, List.getElem?_cons_zero] at c10
  rw [HEV.out] at c10
  have x0 := hxk.cell 0
  have x1 := hxk.cell 1
  have xl := hxk.lt
  have d0 := hdk.cell 0
  have d2 := hdk.cell 2
  have dl := hdk.lt
  dsimp at x0 x1 d0 d2
  clear hxk hdk hs1
  obtain ⟨W5, hW5⟩ : ∃ W5, W5 = W1 := ⟨_, rfl⟩
  subst hW5
  have HLOW : Hid (B ≤ l.lb) := Lib.hid HN1.out.low
  obtain ⟨l5, y5, HL5, HN5, EV5, LB5, LG5, HWD⟩ : ∃ l5 y5, Hid (LnS W5 B l5 y5 x) ∧ Hid (y5.way.length = N) ∧ Hid (l5.v = .slice (some ⟨b, o, none⟩) N c7) ∧ Hid (l5.lb = l.lb) ∧ Hid (l5.g = l.g) ∧ Hid (y.wayD 5 i p = { y5 with way := y5.way.eraseIdx i }) :=
    ⟨l, y, HN1, HN, HEV, Lib.hid rfl, Lib.hid rfl, Lib.hid (by unfold Sys.wayD; rw [if_neg (by decide), if_neg (by decide)])⟩
  have HB5 : Hid (B ≤ W5.heap.size) := Lib.hid (Nat.le_trans HB.out HB1.out.size)
  have HF5 : Hid (Fr (fun k => B ≤ k) w W5) := Lib.hid (fr_below HB1.out)
  clear x0 x1 xl HXK HDK HS1
  obtain ⟨A5, c5, xs, hev, hrd, hone, hnext⟩ := Ln.erase HL5.out HB5.out i (by rw [HN5.out]; exact hw64)
  rw [HN5.out] at hev hrd hnext
  rw [EV5.out] at hev
  injection hev with hev1 hev2 hev3
  subst hev1; subst hev3
  have HC : Hid (Calls Try.prog 118 #[.slice (some ⟨b, o, none⟩) N c7] W5.drew fun e w' => ∃ v, e = .returned v ∧ Row w' W5.heap.size 171 2 v N xs ∧ Below W5.heap.size W5 w') := Lib.hid ((letClone _ N c7 xs W5.drew _ hrd.drew hone (Nat.le_refl _) (by omega)).mono (fun e w' ⟨v, h1, h2, h3⟩ => ⟨v, h1, h2, ((Below.refl _ W5).drew).trans h3⟩))
  have HONE := Lib.hid hone
  have HNX := Lib.hid hnext
  have HDL := Lib.hid (fun W (g o5 c9 : Nat) (hr : Row W W5.heap.size 171 2 (.slice (some ⟨g, o5, none⟩) N c9) N xs) hc => letDelete g o5 N c9 i xs W W5.heap.size hr HONE.out HLT.out hc)
  have hwi : IntKind.i64.wrap ((i : Int) + 1) = (i : Int) + 1 := IntWalk.i64_in _ (by omega)
  clear hrd hone hnext hev2
  have hdl1 : l.lb ≠ w.heap.size := by have := HLW.out; omega
  have hdl2 : w.heap.size ≠ l.lb := by have := HLW.out; omega
  go_wp2_with fail
  go_region_law (first
    | (refine step_call_gow rfl 118 #[.tmp 58] #[158] rfl #[.slice (some ⟨b, o, none⟩) N c7] (by simp [Act.eval, Act.put]) (run118 _ _) _ HC.out ?_
       rintro v6 w6 ⟨hr6, hb6⟩
       obtain ⟨A6, c6, rfl, q1, q2⟩ := hr6.shape
       obtain ⟨g6, o6, rfl, -⟩ := hr6.reads.2 (by have := HLT.out; omega)
       have HD6 := Lib.hid (HDL.out w6 g6 o6 c6 hr6 ⟨q1, by unfold maxLen at q2; omega⟩)
       have HG6 := Lib.hid (hr6.lt g6 rfl).1
       have HB6 := Lib.hid hb6
       have m10 : w6.cell? ⟨l.lb, 10, none⟩ = some (.slice (some ⟨b, o, none⟩) N c7) := (hb6.cell (p := ⟨l.lb, 10, none⟩) l10).trans c10
       have m2 : w6.cell? ⟨w.heap.size, 2, none⟩ = some (.int .i64 i) := (hb6.cell (p := ⟨w.heap.size, 2, none⟩) dl).trans d2
       have mdl := Nat.lt_of_lt_of_le dl hb6.size
       have mB : Hid (Blk w6 l.lb l5.cells 160) := Lib.hid (by rw [← LB5.out]; exact (Ln.grow HL5.out hb6).blk)
       clear hr6 hb6 q1 q2)
    | (refine step_call_gow rfl 117 #[.tmp 59, .tmp 61, .tmp 64] #[158, 3, 3] rfl #[.slice (some ⟨g6, o6, none⟩) N c6, .int .i64 i, .int .i64 ((i : Int) + 1)] (by simp [Act.eval, Act.put, hwi]) (run117 _ _) (fun v w' => Ending.returned v = .returned (.slice (some ⟨g6, o6, none⟩) (N - 1) c6) ∧ Row w' W5.heap.size 171 2 (.slice (some ⟨g6, o6, none⟩) (N - 1) c6) (N - 1) (xs.take (i * 2) ++ xs.drop ((i + 1) * 2)) ∧ Fr (fun k => k = g6) w6 w') (HD6.out.mono (fun e w' ⟨h1, h2, h3⟩ => ⟨_, h1, rfl, h2, h3⟩)) ?_
       rintro v7 w7 ⟨hv7, hr7, hf7⟩
       injection hv7 with hv7
       subst hv7
       have HN7 := Lib.hid (HNX.out w6 w7 g6 o6 c6 HG6.out HB6.out hr7 hf7 HLT.out)
       have HF7 : Hid (Fr (fun k => B ≤ k) W5 w7) := Lib.hid (fr_trans (fr_below HB6.out) (hf7.mono (fun k _ e => by have := HG6.out; have := HB5.out; omega)))
       have hne : ¬ l.lb = g6 := by have := HG6.out; omega
       have mk7 := mB.out.fr hf7 hne
       have n2 : w7.cell? ⟨w.heap.size, 2, none⟩ = some (.int .i64 i) := (hf7.cell (p := ⟨w.heap.size, 2, none⟩) mdl (fun e => by have e9 : w.heap.size = g6 := e; have := HG6.out; omega)).trans m2
       have k10 := mk7.cell 10
       have kf := mk7.free 10
       have kl := mk7.lt
       dsimp only [Lay.cells] at k10
       simp only [List.getElem?_toArray, List.getElem?_cons_succ, List.getElem?_cons_zero] at k10
       clear hr7 hf7 mk7 hne))
  all_goals
    have HF : Hid (LnP w B l (y.wayD 5 i p) (.returned (.tuple #[])) (w7.setCell ⟨l.lb, 10, none⟩ (.slice (some ⟨g6, o6, none⟩) (N - 1) c6))) := Lib.hid (by
      have h7 := HN7.out
      have h8 := congrArg (fun q => w7.setCell ⟨q, 10, none⟩ (.slice (some ⟨g6, o6, none⟩) (N - 1) c6)) LB5.out
      rw [h8] at h7
      rw [HWD.out]
      refine ⟨rfl, { l5 with v := .slice (some ⟨g6, o6, none⟩) (N - 1) c6, z := l5.z }, _, LB5.out, LG5.out, h7, ?_⟩
      · exact (fr_trans HF5.out HF7.out).setCell (p := ⟨l.lb, 10, none⟩) (fun _ => HLOW.out) _)
    go_wp2
    go_end0
    exact HF.out
end
end Go.Proofs.Ythlhjaacjhlkhaa
/- Contract of the line's deed: what is on its way comes to end 0. -/
namespace Go.Proofs.Ythlhjaacjhlkhaa
open Go.RowKit
set_option maxHeartbeats 400000
set_option linter.unusedVariables false
set_option linter.unusedSimpArgs false
section
variable {w : World} {B : Nat} {l : Lay} {y : Sys} {x : Nat → EC} {m : Nat}
set_option maxHeartbeats 4000000 in
set_option maxRecDepth 100000 in
theorem deed_come0 (h : LnS w B l y x) (hok : y.Ok m) (hm : m ≤ 1000) (hB : B ≤ w.heap.size) (ee : Int) (i : Nat) (p : Nat × Sg) (hi : y.way[i]? = some p) (hp : p.1 = 0) (A : Option Addr) (k c : Nat) :
    Calls Try.prog 113 #[.pointer (some ⟨l.lb, 0, none⟩), .agg #[.int .i64 4, .int .i64 ee, .int .i64 i, .slice A k c]] w (LnP w B l (y.wayD 4 i p)) := by
  obtain ⟨i0, hinf, hz0, hz1, hz2⟩ := info_parts pletinfo
  obtain ⟨r, b, o, c7, ev, hc1, hc2, hrt, hrs, hrf, hbl, hlt, kb0, kb1⟩ := h.letter hi
  have HH := Lib.hid h
  have HOK := Lib.hid hok
  have HM := Lib.hid hm
  have HRF := Lib.hid hrf
  have HRT := Lib.hid hrt
  have HRS := Lib.hid hrs
  have HI := Lib.hid hi
  have HEV := Lib.hid ev
  have HB := Lib.hid hB
  have hw64 := hok.len
  have hre : r.who = 0 := hrt.trans hp
  have kb0 : w.cell? ⟨b, o + i * 2, none⟩ = some (.int .i64 0) := by rw [hre] at kb0; exact kb0
  have HP1 := Lib.hid hp
  clear hp hre
  have c10 := h.blk.cell 10
  have hl := h.blk.lt
  dsimp only [Lay.cells] at c10
  simp only [List.getElem?_toArray, List.getElem?_cons_succ, List.getElem?_cons_zero] at c10
  rw [ev] at c10
  have hiI : (i : Int) < y.way.length := by omega
  have hi0 : (0 : Int) ≤ (i : Int) := by omega
  have HC2 := Lib.hid hc2
  have HLL := Lib.hid hl
  have HLW := Lib.hid hl
  have HOB := Lib.hid (fun i' hi' k hk => (Ob2.lt (h.est i' hi') k hk).2)
  have HC1 := Lib.hid hc1
  have HLT := Lib.hid hlt
  have HBL := Lib.hid hbl
  generalize hN : y.way.length = N at *
  have HN := Lib.hid hN
  clear h hok hm hrf hi ev hrt hrs hN hB hc1 hc2 hlt
  obtain ⟨W0, hW0⟩ : ∃ W0, W0 = w.alloc (.cells #[.int .i64 4, .int .i64 ee, .int .i64 i, .slice A k c] 162) := ⟨_, rfl⟩
  have hb0 : Below w.heap.size w W0 := by rw [hW0]; exact (Below.refl _ w).alloc (Nat.le_refl _) _
  have hs0 : W0.heap.size = w.heap.size + 1 := by rw [hW0]; simp
  have hbk : Blk W0 w.heap.size #[.int .i64 4, .int .i64 ee, .int .i64 i, .slice A k c] 162 := by rw [hW0]; exact Blk.new _ _ _
  have j10 := (hb0.cell (p := ⟨l.lb, 10, none⟩) hl).trans c10
  have jb0 := (hb0.cell (p := ⟨b, o + i * 2, none⟩) hbl).trans kb0
  have jb1 := (hb0.cell (p := ⟨b, o + i * 2 + 1, none⟩) hbl).trans kb1
  have d0 := hbk.cell 0
  have d2 := hbk.cell 2
  have dl := hbk.lt
  dsimp at d0 d2
  have hl0 : l.lb < W0.heap.size := by omega
  have hbl0 : b < W0.heap.size := by omega
  go_enter Try.func113, Try.ntmps113
  go_wp2_with fail
  rw [← hW0]
  have HB0 := Lib.hid hb0
  have HS0 := Lib.hid hs0
  have HBK := Lib.hid hbk
  clear hW0 c10 kb0 kb1 hl hbl hb0 hbk
  have nn1 := World.new_ne W0 _ j10
  have nn2 := World.new_ne W0 _ d2
  have nn3 := World.new_ne W0 _ jb0
  have nn4 := World.new_ne W0 _ jb1
  go_region_held3 (fun w' => w'.cell? ⟨l.lb, 10, none⟩ = some (.slice (some ⟨b, o, none⟩) N c7) ∧ w'.cell? ⟨w.heap.size, 2, none⟩ = some (.int .i64 i) ∧ w'.cell? ⟨b, o + i * 2, none⟩ = some (.int .i64 0) ∧ w'.cell? ⟨b, o + i * 2 + 1, none⟩ = some (.slice r.A r.bs.length r.c)) (go_keep) (fail)
  obtain ⟨W1, hW1⟩ : ∃ W1, W1 = (W0.alloc (.cells #[.int .i64 0, .slice r.A r.bs.length r.c] 171)).drew := ⟨_, rfl⟩
  rw [← hW1]
  have hs1 : W1.heap.size = w.heap.size + 1 + 1 := by rw [hW1]; simp; exact HS0.out
  have hb1 : Below w.heap.size w W1 := by rw [hW1]; exact (HB0.out.alloc (by have := HS0.out; omega) _).drew
  have hxk : Blk W1 (w.heap.size + 1) #[.int .i64 0, .slice r.A r.bs.length r.c] 171 := by rw [hW1, ← HS0.out]; exact (Blk.new _ _ _).drew
  have hdk : Blk W1 w.heap.size #[.int .i64 4, .int .i64 ee, .int .i64 i, .slice A k c] 162 := by rw [hW1]; exact (HBK.out.alloc _).drew
  have HB1 := Lib.hid hb1
  have HS1 := Lib.hid hs1
  have HXK := Lib.hid hxk
  have HDK := Lib.hid hdk
  have HN1 : Hid (LnS W1 B l y x) := Lib.hid (Ln.grow HH.out hb1)
  have hRF1 : Hid (r.Fine W1 l.z) := Lib.hid (HRF.out.fr (Fr.of_grow hb1) (fun _ _ e => e) (fun _ e => e))
  clear hW1 j10 jb0 jb1 d0 d2 dl hl0 hbl0 nn1 nn2 nn3 nn4 hb1 HB0 HS0 HBK HRF HH hs0
  have c10 := HN1.out.blk.cell 10
  have f10 := HN1.out.blk.free 10
  have l10 := HN1.out.blk.lt
  dsimp only [Lay.cells] at c10
  simp only [List.getElem?_toArray, List.getElem?_cons_succ, List.getElem?_cons_zero] at c10
  rw [HEV.out] at c10
  have x0 := hxk.cell 0
  have x1 := hxk.cell 1
  have xl := hxk.lt
  have d0 := hdk.cell 0
  have d2 := hdk.cell 2
  have dl := hdk.lt
  dsimp at x0 x1 d0 d2
  clear hxk hdk hs1
  have HFN : Hid (p.2.Fine) := Lib.hid (HOK.out.way p (List.mem_of_getElem? HI.out)).2
  have HDN := Lib.hid (decode_new r.A r.bs.length r.c r.bs W1 hRF1.out.rb hRF1.out.cap.1 hRF1.out.cap.2)
  have hde : decI r.bs = ⟨p.2.seq, p.2.ack, p.2.flags, p.2.window, p.2.dat, 0⟩ := by
    unfold Lt.bs
    rw [HRS.out]
    exact dec_enc HFN.out.seq HFN.out.ack HFN.out.flags HFN.out.window HFN.out.len
  rw [hde] at HDN
  clear hde
  go_wp2_with fail
  refine HDN.out.mono ?_
  rintro e3 w3 ⟨A3, m3, c3, rfl, hr3, hb3, hf3⟩
  dsimp only at hr3 ⊢
  have hlen := hr3.len
  subst hlen
  obtain ⟨W3, hW3⟩ : ∃ W3, W3 = w3.alloc (.cells #[.int .u32 p.2.seq, .int .u32 p.2.ack, .int .i64 p.2.flags, .int .i64 p.2.window, .slice A3 p.2.dat.length c3] 25) := ⟨_, rfl⟩
  have hb13 : Below W1.heap.size W1 W3 := by rw [hW3]; exact hb3.alloc hb3.size _
  have hsb : Blk W3 w3.heap.size #[.int .u32 p.2.seq, .int .u32 p.2.ack, .int .i64 p.2.flags, .int .i64 p.2.window, .slice A3 p.2.dat.length c3] 25 := by rw [hW3]; exact Blk.new _ _ _
  have HL3 : Hid (LnS W3 B l y x) := Lib.hid (Ln.grow HN1.out hb13)
  have hR3 : RB W3 W3.heap.size A3 p.2.dat.length p.2.dat := by rw [hW3]; exact (hr3.alloc (Nat.le_refl _) _).more (by simp)
  have HFAR : Hid (∀ i', i' < 2 → Far W3.drew (l.g i') (l.vo i') (l.vi i') A3 p.2.dat.length p.2.dat) := Lib.hid (fun i' hi' => ⟨hR3.drew, fun b9 o9 e9 h9 hk => by
    have h1 := hf3.2.2 b9 (by rw [e9]; rfl)
    have h2 := (Ob2.lt (HN1.out.est i' hi') b9 hk).2
    omega⟩)
  have HXK3 := Lib.hid (HXK.out.fr (Fr.of_grow hb13) id)
  have HDK3 := Lib.hid (HDK.out.fr (Fr.of_grow hb13) id)
  have HF3 := Lib.hid (fr_below (B := B) (HB1.out.trans (hb13.mono HB1.out.size)))
  have hB3 : B ≤ W3.heap.size := Nat.le_trans HB.out HF3.out.size
  have HSB := Lib.hid hsb
  have HL3d : Hid (LnS W3.drew B l y x) := Lib.hid (Ln.grow HL3.out ((Below.refl _ W3).drew))
  have hR3d : RB W3.drew W3.drew.heap.size A3 p.2.dat.length p.2.dat := hR3.drew
  have HCM := Lib.hid (ecomeF (m := m) (HL3d.out.est 0 (by omega)) (HL3d.out.tie 0 (by omega)) hB3 p.2 HFN.out.seq HFN.out.ack A3 p.2.dat.length c3 (HFAR.out 0 (by omega)) hf3.1 hf3.2.1 (HOK.out.at_ 0) HM.out)
  rw [fine_check HFN.out, if_pos rfl] at HCM
  generalize (y.at 0).cameE 0 = er at *
  have HDAT := Lib.hid hf3
  have hs3 : w3.heap.size < W3.heap.size := by rw [hW3]; simp
  have hs3w : w.heap.size + 1 + 1 ≤ w3.heap.size := by have := hb3.size; have := HS1.out; omega
  clear hr3 hb3 hf3 hR3 c10 f10 l10 x0 x1 xl d0 d2 dl
  have c10 := HL3.out.blk.cell 10
  have ce := HL3.out.blk.cell 0
  have l10 := HL3.out.blk.lt
  dsimp only [Lay.cells] at c10 ce
  simp only [List.getElem?_toArray, List.getElem?_cons_succ, List.getElem?_cons_zero] at c10 ce
  rw [HEV.out] at c10
  have x0 := HXK3.out.cell 0
  have xl := HXK3.out.lt
  have d0 := HDK3.out.cell 0
  have d2 := HDK3.out.cell 2
  have dl := HDK3.out.lt
  have s0 := hsb.cell 0
  have s1 := hsb.cell 1
  have s2 := hsb.cell 2
  have s3 := hsb.cell 3
  have s4 := hsb.cell 4
  dsimp at x0 d0 d2 s0 s1 s2 s3 s4
  have HSX := Lib.hid hs3w
  clear hsb hb13 HDN
  go_wp2_with fail
  rw [← hW3]
  clear hW3
  go_region_held3 (fun w' => w'.cell? ⟨w.heap.size + 1, 0, none⟩ = some (.int .i64 0) ∧ w'.cell? ⟨l.lb, 0, none⟩ = some (.pointer (some ⟨l.g 0, 0, none⟩)) ∧ w'.cell? ⟨w3.heap.size, 0, none⟩ = some (.int .u32 p.2.seq) ∧ w'.cell? ⟨w3.heap.size, 1, none⟩ = some (.int .u32 p.2.ack) ∧ w'.cell? ⟨w3.heap.size, 2, none⟩ = some (.int .i64 p.2.flags) ∧ w'.cell? ⟨w3.heap.size, 3, none⟩ = some (.int .i64 p.2.window) ∧ w'.cell? ⟨w3.heap.size, 4, none⟩ = some (.slice A3 p.2.dat.length c3))
    (first
      | go_keep
      | (refine ⟨?_, ?_, ?_, ?_, ?_, ?_, ?_⟩
         · assumption
         · assumption
         · assumption
         · assumption
         · assumption
         · assumption
         · assumption))
    (first
    | (refine step_call_gow rfl 52 #[.tmp 51, .tmp 52] #[62, 25] rfl #[.pointer (some ⟨l.g 0, 0, none⟩), .agg #[.int .u32 p.2.seq, .int .u32 p.2.ack, .int .i64 p.2.flags, .int .i64 p.2.window, .slice A3 p.2.dat.length c3]] (by simp [Act.eval, Act.put]) (run52w _ _) (fun v w' => ESGo W3.drew B (l.g 0) (l.vo 0) (l.vi 0) ((y.at 0).cameS p.2) w') (HCM.out.mono (fun e9 w9 ⟨h1, h2⟩ => ⟨_, h1, h2⟩)) ?_
       rintro u5 W5 ⟨x5, ht5, hg5⟩
       obtain ⟨v1, v2, hm5, hf5⟩ := Ln.endGo HL3d.out (e := 0) (by omega) ht5 hg5
       have hxk5 := HXK3.out.drew.fr hf5 (fun hk => by have := HOB.out 0 (by omega) _ hk; omega)
       have hdk5 := HDK3.out.drew.fr hf5 (fun hk => by have := HOB.out 0 (by omega) _ hk; omega)
       have hsb5 := HSB.out.drew.fr hf5 (fun hk => by have := HOB.out 0 (by omega) _ hk; have := HSX.out; omega)
       have y0 : W5.cell? ⟨w.heap.size + 1, 0, none⟩ = some (.int .i64 0) := hxk5.cell 0
       have ye : W5.cell? ⟨l.lb, 0, none⟩ = some (.pointer (some ⟨l.g 0, 0, none⟩)) := hm5.blk.cell 0
       have ys0 : W5.cell? ⟨w3.heap.size, 0, none⟩ = some (.int .u32 p.2.seq) := hsb5.cell 0
       have ys1 : W5.cell? ⟨w3.heap.size, 1, none⟩ = some (.int .u32 p.2.ack) := hsb5.cell 1
       have ys2 : W5.cell? ⟨w3.heap.size, 2, none⟩ = some (.int .i64 p.2.flags) := hsb5.cell 2
       have ys3 : W5.cell? ⟨w3.heap.size, 3, none⟩ = some (.int .i64 p.2.window) := hsb5.cell 3
       have ys4 : W5.cell? ⟨w3.heap.size, 4, none⟩ = some (.slice A3 p.2.dat.length c3) := hsb5.cell 4
       have HM5 := Lib.hid hm5
       have HF5a := Lib.hid hf5
       have HD5 := Lib.hid hdk5
       clear hm5 hf5 hg5 hxk5 hdk5 hsb5 ht5))
  have HF5 : Hid (Fr (fun k => B ≤ k) w W5) := Lib.hid (fr_trans (fr_trans HF3.out (fr_below ((Below.refl _ W3).drew))) (HF5a.out.mono (fun k _ hk => (Ob2.lt (HL3d.out.est 0 (by omega)) k hk).1)))
  have HB5 : Hid (B ≤ W5.heap.size) := Lib.hid (Nat.le_trans HB.out HF5.out.size)
  have HLOW : Hid (B ≤ l.lb) := Lib.hid HN1.out.low
  obtain ⟨l5, y5, x6, HL5, HN5, EV5, LB5, LG5, HWD⟩ : ∃ l5 y5 x6, Hid (LnS W5 B l5 y5 x6) ∧ Hid (y5.way.length = N) ∧ Hid (l5.v = .slice (some ⟨b, o, none⟩) N c7) ∧ Hid (l5.lb = l.lb) ∧ Hid (l5.g = l.g) ∧ Hid (y.wayD 4 i p = { y5 with way := y5.way.eraseIdx i }) :=
    ⟨{ l with vo := upd l.vo 0 v1, vi := upd l.vi 0 v2 }, y.onE 0 (fun s => s.cameS p.2), _,
      Lib.hid (HM5.out.of (y.at_on (by omega) (fun s => s.cameS p.2)) (fun i' _ => (y.said_on 0 (f := fun s => s.cameS p.2) (fun s => came_said s p.2) i').symm) (fun i' hi' => (y.rdL_on (e := 0) (by omega) (f := fun s => s.cameS p.2) (came_rdL (HOK.out.at_ 0) p.2) i' hi').symm) (Sys.onE_way y 0 _).symm),
      Lib.hid (by rw [Sys.onE_way]; exact HN.out), HEV, Lib.hid rfl, Lib.hid rfl, Lib.hid (by
        unfold Sys.wayD
        rw [if_neg (by decide), if_pos rfl, HP1.out, Sys.onE_way])⟩
  clear c10 l10 d0 d2 dl
  have d2 : W5.cell? ⟨w.heap.size, 2, none⟩ = some (.int .i64 i) := HD5.out.cell 2
  have dl := HD5.out.lt
  have c10 := HL5.out.blk.cell 10
  have l10 := HL5.out.blk.lt
  dsimp only [Lay.cells] at c10
  simp only [List.getElem?_toArray, List.getElem?_cons_succ, List.getElem?_cons_zero] at c10
  rw [EV5.out, LB5.out] at c10
  rw [LB5.out] at l10
  clear x0 xl ce s0 s1 s2 s3 s4 y0 ye ys0 ys1 ys2 ys3 ys4 hB3 hs3 hs3w
  obtain ⟨A5, c5, xs, hev, hrd, hone, hnext⟩ := Ln.erase HL5.out HB5.out i (by rw [HN5.out]; exact hw64)
  rw [HN5.out] at hev hrd hnext
  rw [EV5.out] at hev
  injection hev with hev1 hev2 hev3
  subst hev1; subst hev3
  have HC : Hid (Calls Try.prog 118 #[.slice (some ⟨b, o, none⟩) N c7] W5.drew fun e w' => ∃ v, e = .returned v ∧ Row w' W5.heap.size 171 2 v N xs ∧ Below W5.heap.size W5 w') := Lib.hid ((letClone _ N c7 xs W5.drew _ hrd.drew hone (Nat.le_refl _) (by omega)).mono (fun e w' ⟨v, h1, h2, h3⟩ => ⟨v, h1, h2, ((Below.refl _ W5).drew).trans h3⟩))
  have HONE := Lib.hid hone
  have HNX := Lib.hid hnext
  have HDL := Lib.hid (fun W (g o5 c9 : Nat) (hr : Row W W5.heap.size 171 2 (.slice (some ⟨g, o5, none⟩) N c9) N xs) hc => letDelete g o5 N c9 i xs W W5.heap.size hr HONE.out HLT.out hc)
  have hwi : IntKind.i64.wrap ((i : Int) + 1) = (i : Int) + 1 := IntWalk.i64_in _ (by omega)
  clear hrd hone hnext hev2
  have hdl1 : l.lb ≠ w.heap.size := by have := HLW.out; omega
  have hdl2 : w.heap.size ≠ l.lb := by have := HLW.out; omega
  go_wp2_with fail
  go_region_law (first
    | (refine step_call_gow rfl 118 #[.tmp 58] #[158] rfl #[.slice (some ⟨b, o, none⟩) N c7] (by simp [Act.eval, Act.put]) (run118 _ _) _ HC.out ?_
       rintro v6 w6 ⟨hr6, hb6⟩
       obtain ⟨A6, c6, rfl, q1, q2⟩ := hr6.shape
       obtain ⟨g6, o6, rfl, -⟩ := hr6.reads.2 (by have := HLT.out; omega)
       have HD6 := Lib.hid (HDL.out w6 g6 o6 c6 hr6 ⟨q1, by unfold maxLen at q2; omega⟩)
       have HG6 := Lib.hid (hr6.lt g6 rfl).1
       have HB6 := Lib.hid hb6
       have m10 : w6.cell? ⟨l.lb, 10, none⟩ = some (.slice (some ⟨b, o, none⟩) N c7) := (hb6.cell (p := ⟨l.lb, 10, none⟩) l10).trans c10
       have m2 : w6.cell? ⟨w.heap.size, 2, none⟩ = some (.int .i64 i) := (hb6.cell (p := ⟨w.heap.size, 2, none⟩) dl).trans d2
       have mdl := Nat.lt_of_lt_of_le dl hb6.size
       have mB : Hid (Blk w6 l.lb l5.cells 160) := Lib.hid (by rw [← LB5.out]; exact (Ln.grow HL5.out hb6).blk)
       clear hr6 hb6 q1 q2)
    | (refine step_call_gow rfl 117 #[.tmp 59, .tmp 61, .tmp 64] #[158, 3, 3] rfl #[.slice (some ⟨g6, o6, none⟩) N c6, .int .i64 i, .int .i64 ((i : Int) + 1)] (by simp [Act.eval, Act.put, hwi]) (run117 _ _) (fun v w' => Ending.returned v = .returned (.slice (some ⟨g6, o6, none⟩) (N - 1) c6) ∧ Row w' W5.heap.size 171 2 (.slice (some ⟨g6, o6, none⟩) (N - 1) c6) (N - 1) (xs.take (i * 2) ++ xs.drop ((i + 1) * 2)) ∧ Fr (fun k => k = g6) w6 w') (HD6.out.mono (fun e w' ⟨h1, h2, h3⟩ => ⟨_, h1, rfl, h2, h3⟩)) ?_
       rintro v7 w7 ⟨hv7, hr7, hf7⟩
       injection hv7 with hv7
       subst hv7
       have HN7 := Lib.hid (HNX.out w6 w7 g6 o6 c6 HG6.out HB6.out hr7 hf7 HLT.out)
       have HF7 : Hid (Fr (fun k => B ≤ k) W5 w7) := Lib.hid (fr_trans (fr_below HB6.out) (hf7.mono (fun k _ e => by have := HG6.out; have := HB5.out; omega)))
       have hne : ¬ l.lb = g6 := by have := HG6.out; omega
       have mk7 := mB.out.fr hf7 hne
       have n2 : w7.cell? ⟨w.heap.size, 2, none⟩ = some (.int .i64 i) := (hf7.cell (p := ⟨w.heap.size, 2, none⟩) mdl (fun e => by have e9 : w.heap.size = g6 := e; have := HG6.out; omega)).trans m2
       have k10 := mk7.cell 10
       have kf := mk7.free 10
       have kl := mk7.lt
       dsimp only [Lay.cells] at k10
       simp only [List.getElem?_toArray, List.getElem?_cons_succ, List.getElem?_cons_zero] at k10
       clear hr7 hf7 mk7 hne))
  all_goals
    have HF : Hid (LnP w B l (y.wayD 4 i p) (.returned (.tuple #[])) (w7.setCell ⟨l.lb, 10, none⟩ (.slice (some ⟨g6, o6, none⟩) (N - 1) c6))) := Lib.hid (by
      have h7 := HN7.out
      have h8 := congrArg (fun q => w7.setCell ⟨q, 10, none⟩ (.slice (some ⟨g6, o6, none⟩) (N - 1) c6)) LB5.out
      rw [h8] at h7
      rw [HWD.out]
      refine ⟨rfl, { l5 with v := .slice (some ⟨g6, o6, none⟩) (N - 1) c6, z := l5.z }, _, LB5.out, LG5.out, h7, ?_⟩
      · exact (fr_trans HF5.out HF7.out).setCell (p := ⟨l.lb, 10, none⟩) (fun _ => HLOW.out) _)
    go_wp2
    go_end0
    exact HF.out
end
end Go.Proofs.Ythlhjaacjhlkhaa
/- Contract of the line's deed: what is on its way comes to end 1. -/
namespace Go.Proofs.Ythlhjaacjhlkhaa
open Go.RowKit
set_option maxHeartbeats 400000
set_option linter.unusedVariables false
set_option linter.unusedSimpArgs false
section
variable {w : World} {B : Nat} {l : Lay} {y : Sys} {x : Nat → EC} {m : Nat}
set_option maxHeartbeats 4000000 in
set_option maxRecDepth 100000 in
theorem deed_come1 (h : LnS w B l y x) (hok : y.Ok m) (hm : m ≤ 1000) (hB : B ≤ w.heap.size) (ee : Int) (i : Nat) (p : Nat × Sg) (hi : y.way[i]? = some p) (hp : p.1 = 1) (A : Option Addr) (k c : Nat) :
    Calls Try.prog 113 #[.pointer (some ⟨l.lb, 0, none⟩), .agg #[.int .i64 4, .int .i64 ee, .int .i64 i, .slice A k c]] w (LnP w B l (y.wayD 4 i p)) := by
  obtain ⟨i0, hinf, hz0, hz1, hz2⟩ := info_parts pletinfo
  obtain ⟨r, b, o, c7, ev, hc1, hc2, hrt, hrs, hrf, hbl, hlt, kb0, kb1⟩ := h.letter hi
  have HH := Lib.hid h
  have HOK := Lib.hid hok
  have HM := Lib.hid hm
  have HRF := Lib.hid hrf
  have HRT := Lib.hid hrt
  have HRS := Lib.hid hrs
  have HI := Lib.hid hi
  have HEV := Lib.hid ev
  have HB := Lib.hid hB
  have hw64 := hok.len
  have hre : r.who = 1 := hrt.trans hp
  have kb0 : w.cell? ⟨b, o + i * 2, none⟩ = some (.int .i64 1) := by rw [hre] at kb0; exact kb0
  have HP1 := Lib.hid hp
  clear hp hre
  have c10 := h.blk.cell 10
  have hl := h.blk.lt
  dsimp only [Lay.cells] at c10
  simp only [List.getElem?_toArray, List.getElem?_cons_succ, List.getElem?_cons_zero] at c10
  rw [ev] at c10
  have hiI : (i : Int) < y.way.length := by omega
  have hi0 : (0 : Int) ≤ (i : Int) := by omega
  have HC2 := Lib.hid hc2
  have HLL := Lib.hid hl
  have HLW := Lib.hid hl
  have HOB := Lib.hid (fun i' hi' k hk => (Ob2.lt (h.est i' hi') k hk).2)
  have HC1 := Lib.hid hc1
  have HLT := Lib.hid hlt
  have HBL := Lib.hid hbl
  generalize hN : y.way.length = N at *
  have HN := Lib.hid hN
  clear h hok hm hrf hi ev hrt hrs hN hB hc1 hc2 hlt
  obtain ⟨W0, hW0⟩ : ∃ W0, W0 = w.alloc (.cells #[.int .i64 4, .int .i64 ee, .int .i64 i, .slice A k c] 162) := ⟨_, rfl⟩
  have hb0 : Below w.heap.size w W0 := by rw [hW0]; exact (Below.refl _ w).alloc (Nat.le_refl _) _
  have hs0 : W0.heap.size = w.heap.size + 1 := by rw [hW0]; simp
  have hbk : Blk W0 w.heap.size #[.int .i64 4, .int .i64 ee, .int .i64 i, .slice A k c] 162 := by rw [hW0]; exact Blk.new _ _ _
  have j10 := (hb0.cell (p := ⟨l.lb, 10, none⟩) hl).trans c10
  have jb0 := (hb0.cell (p := ⟨b, o + i * 2, none⟩) hbl).trans kb0
  have jb1 := (hb0.cell (p := ⟨b, o + i * 2 + 1, none⟩) hbl).trans kb1
  have d0 := hbk.cell 0
  have d2 := hbk.cell 2
  have dl := hbk.lt
  dsimp at d0 d2
  have hl0 : l.lb < W0.heap.size := by omega
  have hbl0 : b < W0.heap.size := by omega
  go_enter Try.func113, Try.ntmps113
  go_wp2_with fail
  rw [← hW0]
  have HB0 := Lib.hid hb0
  have HS0 := Lib.hid hs0
  have HBK := Lib.hid hbk
  clear hW0 c10 kb0 kb1 hl hbl hb0 hbk
  have nn1 := World.new_ne W0 _ j10
  have nn2 := World.new_ne W0 _ d2
  have nn3 := World.new_ne W0 _ jb0
  have nn4 := World.new_ne W0 _ jb1
  go_region_held3 (fun w' => w'.cell? ⟨l.lb, 10, none⟩ = some (.slice (some ⟨b, o, none⟩) N c7) ∧ w'.cell? ⟨w.heap.size, 2, none⟩ = some (.int .i64 i) ∧ w'.cell? ⟨b, o + i * 2, none⟩ = some (.int .i64 1) ∧ w'.cell? ⟨b, o + i * 2 + 1, none⟩ = some (.slice r.A r.bs.length r.c)) (go_keep) (fail)
  obtain ⟨W1, hW1⟩ : ∃ W1, W1 = (W0.alloc (.cells #[.int .i64 1, .slice r.A r.bs.length r.c] 171)).drew := ⟨_, rfl⟩
  rw [← hW1]
  have hs1 : W1.heap.size = w.heap.size + 1 + 1 := by rw [hW1]; simp; exact HS0.out
  have hb1 : Below w.heap.size w W1 := by rw [hW1]; exact (HB0.out.alloc (by have := HS0.out; omega) _).drew
  have hxk : Blk W1 (w.heap.size + 1) #[.int .i64 1, .slice r.A r.bs.length r.c] 171 := by rw [hW1, ← HS0.out]; exact (Blk.new _ _ _).drew
  have hdk : Blk W1 w.heap.size #[.int .i64 4, .int .i64 ee, .int .i64 i, .slice A k c] 162 := by rw [hW1]; exact (HBK.out.alloc _).drew
  have HB1 := Lib.hid hb1
  have HS1 := Lib.hid hs1
  have HXK := Lib.hid hxk
  have HDK := Lib.hid hdk
  have HN1 : Hid (LnS W1 B l y x) := Lib.hid (Ln.grow HH.out hb1)
  have hRF1 : Hid (r.Fine W1 l.z) := Lib.hid (HRF.out.fr (Fr.of_grow hb1) (fun _ _ e => e) (fun _ e => e))
  clear hW1 j10 jb0 jb1 d0 d2 dl hl0 hbl0 nn1 nn2 nn3 nn4 hb1 HB0 HS0 HBK HRF HH hs0
  have c10 := HN1.out.blk.cell 10
  have f10 := HN1.out.blk.free 10
  have l10 := HN1.out.blk.lt
  dsimp only [Lay.cells] at c10
  simp only [List.getElem?_toArray, List.getElem?_cons_succ, List.getElem?_cons_zero] at c10
  rw [HEV.out] at c10
  have x0 := hxk.cell 0
  have x1 := hxk.cell 1
  have xl := hxk.lt
  have d0 := hdk.cell 0
  have d2 := hdk.cell 2
  have dl := hdk.lt
  dsimp at x0 x1 d0 d2
  clear hxk hdk hs1
  have HFN : Hid (p.2.Fine) := Lib.hid (HOK.out.way p (List.mem_of_getElem? HI.out)).2
  have HDN := Lib.hid (decode_new r.A r.bs.length r.c r.bs W1 hRF1.out.rb hRF1.out.cap.1 hRF1.out.cap.2)
  have hde : decI r.bs = ⟨p.2.seq, p.2.ack, p.2.flags, p.2.window, p.2.dat, 0⟩ := by
    unfold Lt.bs
    rw [HRS.out]
    exact dec_enc HFN.out.seq HFN.out.ack HFN.out.flags HFN.out.window HFN.out.len
  rw [hde] at HDN
  clear hde
  go_wp2_with fail
  refine HDN.out.mono ?_
  rintro e3 w3 ⟨A3, m3, c3, rfl, hr3, hb3, hf3⟩
  dsimp only at hr3 ⊢
  have hlen := hr3.len
  subst hlen
  obtain ⟨W3, hW3⟩ : ∃ W3, W3 = w3.alloc (.cells #[.int .u32 p.2.seq, .int .u32 p.2.ack, .int .i64 p.2.flags, .int .i64 p.2.window, .slice A3 p.2.dat.length c3] 25) := ⟨_, rfl⟩
  have hb13 : Below W1.heap.size W1 W3 := by rw [hW3]; exact hb3.alloc hb3.size _
  have hsb : Blk W3 w3.heap.size #[.int .u32 p.2.seq, .int .u32 p.2.ack, .int .i64 p.2.flags, .int .i64 p.2.window, .slice A3 p.2.dat.length c3] 25 := by rw [hW3]; exact Blk.new _ _ _
  have HL3 : Hid (LnS W3 B l y x) := Lib.hid (Ln.grow HN1.out hb13)
  have hR3 : RB W3 W3.heap.size A3 p.2.dat.length p.2.dat := by rw [hW3]; exact (hr3.alloc (Nat.le_refl _) _).more (by simp)
  have HFAR : Hid (∀ i', i' < 2 → Far W3.drew (l.g i') (l.vo i') (l.vi i') A3 p.2.dat.length p.2.dat) := Lib.hid (fun i' hi' => ⟨hR3.drew, fun b9 o9 e9 h9 hk => by
    have h1 := hf3.2.2 b9 (by rw [e9]; rfl)
    have h2 := (Ob2.lt (HN1.out.est i' hi') b9 hk).2
    omega⟩)
  have HXK3 := Lib.hid (HXK.out.fr (Fr.of_grow hb13) id)
  have HDK3 := Lib.hid (HDK.out.fr (Fr.of_grow hb13) id)
  have HF3 := Lib.hid (fr_below (B := B) (HB1.out.trans (hb13.mono HB1.out.size)))
  have hB3 : B ≤ W3.heap.size := Nat.le_trans HB.out HF3.out.size
  have HSB := Lib.hid hsb
  have HL3d : Hid (LnS W3.drew B l y x) := Lib.hid (Ln.grow HL3.out ((Below.refl _ W3).drew))
  have hR3d : RB W3.drew W3.drew.heap.size A3 p.2.dat.length p.2.dat := hR3.drew
  have HCM := Lib.hid (ecomeF (m := m) (HL3d.out.est 1 (by omega)) (HL3d.out.tie 1 (by omega)) hB3 p.2 HFN.out.seq HFN.out.ack A3 p.2.dat.length c3 (HFAR.out 1 (by omega)) hf3.1 hf3.2.1 (HOK.out.at_ 1) HM.out)
  rw [fine_check HFN.out, if_pos rfl] at HCM
  generalize (y.at 1).cameE 0 = er at *
  have HDAT := Lib.hid hf3
  have hs3 : w3.heap.size < W3.heap.size := by rw [hW3]; simp
  have hs3w : w.heap.size + 1 + 1 ≤ w3.heap.size := by have := hb3.size; have := HS1.out; omega
  clear hr3 hb3 hf3 hR3 c10 f10 l10 x0 x1 xl d0 d2 dl
  have c10 := HL3.out.blk.cell 10
  have ce := HL3.out.blk.cell 1
  have l10 := HL3.out.blk.lt
  dsimp only [Lay.cells] at c10 ce
  simp only [List.getElem?_toArray, List.getElem?_cons_succ, List.getElem?_cons_zero] at c10 ce
  rw [HEV.out] at c10
  have x0 := HXK3.out.cell 0
  have xl := HXK3.out.lt
  have d0 := HDK3.out.cell 0
  have d2 := HDK3.out.cell 2
  have dl := HDK3.out.lt
  have s0 := hsb.cell 0
  have s1 := hsb.cell 1
  have s2 := hsb.cell 2
  have s3 := hsb.cell 3
  have s4 := hsb.cell 4
  dsimp at x0 d0 d2 s0 s1 s2 s3 s4
  have HSX := Lib.hid hs3w
  clear hsb hb13 HDN
  go_wp2_with fail
  rw [← hW3]
  clear hW3
  go_region_held3 (fun w' => w'.cell? ⟨w.heap.size + 1, 0, none⟩ = some (.int .i64 1) ∧ w'.cell? ⟨l.lb, 1, none⟩ = some (.pointer (some ⟨l.g 1, 0, none⟩)) ∧ w'.cell? ⟨w3.heap.size, 0, none⟩ = some (.int .u32 p.2.seq) ∧ w'.cell? ⟨w3.heap.size, 1, none⟩ = some (.int .u32 p.2.ack) ∧ w'.cell? ⟨w3.heap.size, 2, none⟩ = some (.int .i64 p.2.flags) ∧ w'.cell? ⟨w3.heap.size, 3, none⟩ = some (.int .i64 p.2.window) ∧ w'.cell? ⟨w3.heap.size, 4, none⟩ = some (.slice A3 p.2.dat.length c3))
    (first
      | go_keep
      | (refine ⟨?_, ?_, ?_, ?_, ?_, ?_, ?_⟩
         · assumption
         · assumption
         · assumption
         · assumption
         · assumption
         · assumption
         · assumption))
    (first
    | (refine step_call_gow rfl 52 #[.tmp 51, .tmp 52] #[62, 25] rfl #[.pointer (some ⟨l.g 1, 0, none⟩), .agg #[.int .u32 p.2.seq, .int .u32 p.2.ack, .int .i64 p.2.flags, .int .i64 p.2.window, .slice A3 p.2.dat.length c3]] (by simp [Act.eval, Act.put]) (run52w _ _) (fun v w' => ESGo W3.drew B (l.g 1) (l.vo 1) (l.vi 1) ((y.at 1).cameS p.2) w') (HCM.out.mono (fun e9 w9 ⟨h1, h2⟩ => ⟨_, h1, h2⟩)) ?_
       rintro u5 W5 ⟨x5, ht5, hg5⟩
       obtain ⟨v1, v2, hm5, hf5⟩ := Ln.endGo HL3d.out (e := 1) (by omega) ht5 hg5
       have hxk5 := HXK3.out.drew.fr hf5 (fun hk => by have := HOB.out 1 (by omega) _ hk; omega)
       have hdk5 := HDK3.out.drew.fr hf5 (fun hk => by have := HOB.out 1 (by omega) _ hk; omega)
       have hsb5 := HSB.out.drew.fr hf5 (fun hk => by have := HOB.out 1 (by omega) _ hk; have := HSX.out; omega)
       have y0 : W5.cell? ⟨w.heap.size + 1, 0, none⟩ = some (.int .i64 1) := hxk5.cell 0
       have ye : W5.cell? ⟨l.lb, 1, none⟩ = some (.pointer (some ⟨l.g 1, 0, none⟩)) := hm5.blk.cell 1
       have ys0 : W5.cell? ⟨w3.heap.size, 0, none⟩ = some (.int .u32 p.2.seq) := hsb5.cell 0
       have ys1 : W5.cell? ⟨w3.heap.size, 1, none⟩ = some (.int .u32 p.2.ack) := hsb5.cell 1
       have ys2 : W5.cell? ⟨w3.heap.size, 2, none⟩ = some (.int .i64 p.2.flags) := hsb5.cell 2
       have ys3 : W5.cell? ⟨w3.heap.size, 3, none⟩ = some (.int .i64 p.2.window) := hsb5.cell 3
       have ys4 : W5.cell? ⟨w3.heap.size, 4, none⟩ = some (.slice A3 p.2.dat.length c3) := hsb5.cell 4
       have HM5 := Lib.hid hm5
       have HF5a := Lib.hid hf5
       have HD5 := Lib.hid hdk5
       clear hm5 hf5 hg5 hxk5 hdk5 hsb5 ht5))
  have HF5 : Hid (Fr (fun k => B ≤ k) w W5) := Lib.hid (fr_trans (fr_trans HF3.out (fr_below ((Below.refl _ W3).drew))) (HF5a.out.mono (fun k _ hk => (Ob2.lt (HL3d.out.est 1 (by omega)) k hk).1)))
  have HB5 : Hid (B ≤ W5.heap.size) := Lib.hid (Nat.le_trans HB.out HF5.out.size)
  have HLOW : Hid (B ≤ l.lb) := Lib.hid HN1.out.low
  obtain ⟨l5, y5, x6, HL5, HN5, EV5, LB5, LG5, HWD⟩ : ∃ l5 y5 x6, Hid (LnS W5 B l5 y5 x6) ∧ Hid (y5.way.length = N) ∧ Hid (l5.v = .slice (some ⟨b, o, none⟩) N c7) ∧ Hid (l5.lb = l.lb) ∧ Hid (l5.g = l.g) ∧ Hid (y.wayD 4 i p = { y5 with way := y5.way.eraseIdx i }) :=
    ⟨{ l with vo := upd l.vo 1 v1, vi := upd l.vi 1 v2 }, y.onE 1 (fun s => s.cameS p.2), _,
      Lib.hid (HM5.out.of (y.at_on (by omega) (fun s => s.cameS p.2)) (fun i' _ => (y.said_on 1 (f := fun s => s.cameS p.2) (fun s => came_said s p.2) i').symm) (fun i' hi' => (y.rdL_on (e := 1) (by omega) (f := fun s => s.cameS p.2) (came_rdL (HOK.out.at_ 1) p.2) i' hi').symm) (Sys.onE_way y 1 _).symm),
      Lib.hid (by rw [Sys.onE_way]; exact HN.out), HEV, Lib.hid rfl, Lib.hid rfl, Lib.hid (by
        unfold Sys.wayD
        rw [if_neg (by decide), if_pos rfl, HP1.out, Sys.onE_way])⟩
  clear c10 l10 d0 d2 dl
  have d2 : W5.cell? ⟨w.heap.size, 2, none⟩ = some (.int .i64 i) := HD5.out.cell 2
  have dl := HD5.out.lt
  have c10 := HL5.out.blk.cell 10
  have l10 := HL5.out.blk.lt
  dsimp only [Lay.cells] at c10
  simp only [List.getElem?_toArray, List.getElem?_cons_succ, List.getElem?_cons_zero] at c10
  rw [EV5.out, LB5.out] at c10
  rw [LB5.out] at l10
  clear x0 xl ce s0 s1 s2 s3 s4 y0 ye ys0 ys1 ys2 ys3 ys4 hB3 hs3 hs3w
  obtain ⟨A5, c5, xs, hev, hrd, hone, hnext⟩ := Ln.erase HL5.out HB5.out i (by rw [HN5.out]; exact hw64)
  rw [HN5.out] at hev hrd hnext
  rw [EV5.out] at hev
  injection hev with hev1 hev2 hev3
  subst hev1; subst hev3
  have HC : Hid (Calls Try.prog 118 #[.slice (some ⟨b, o, none⟩) N c7] W5.drew fun e w' => ∃ v, e = .returned v ∧ Row w' W5.heap.size 171 2 v N xs ∧ Below W5.heap.size W5 w') := Lib.hid ((letClone _ N c7 xs W5.drew _ hrd.drew hone (Nat.le_refl _) (by omega)).mono (fun e w' ⟨v, h1, h2, h3⟩ => ⟨v, h1, h2, ((Below.refl _ W5).drew).trans h3⟩))
  have HONE := Lib.hid hone
  have HNX := Lib.hid hnext
  have HDL := Lib.hid (fun W (g o5 c9 : Nat) (hr : Row W W5.heap.size 171 2 (.slice (some ⟨g, o5, none⟩) N c9) N xs) hc => letDelete g o5 N c9 i xs W W5.heap.size hr HONE.out HLT.out hc)
  have hwi : IntKind.i64.wrap ((i : Int) + 1) = (i : Int) + 1 := IntWalk.i64_in _ (by omega)
  clear hrd hone hnext hev2
  have hdl1 : l.lb ≠ w.heap.size := by have := HLW.out; omega
  have hdl2 : w.heap.size ≠ l.lb := by have := HLW.out; omega
  go_wp2_with fail
  go_region_law (first
    | (refine step_call_gow rfl 118 #[.tmp 58] #[158] rfl #[.slice (some ⟨b, o, none⟩) N c7] (by simp [Act.eval, Act.put]) (run118 _ _) _ HC.out ?_
       rintro v6 w6 ⟨hr6, hb6⟩
       obtain ⟨A6, c6, rfl, q1, q2⟩ := hr6.shape
       obtain ⟨g6, o6, rfl, -⟩ := hr6.reads.2 (by have := HLT.out; omega)
       have HD6 := Lib.hid (HDL.out w6 g6 o6 c6 hr6 ⟨q1, by unfold maxLen at q2; omega⟩)
       have HG6 := Lib.hid (hr6.lt g6 rfl).1
       have HB6 := Lib.hid hb6
       have m10 : w6.cell? ⟨l.lb, 10, none⟩ = some (.slice (some ⟨b, o, none⟩) N c7) := (hb6.cell (p := ⟨l.lb, 10, none⟩) l10).trans c10
       have m2 : w6.cell? ⟨w.heap.size, 2, none⟩ = some (.int .i64 i) := (hb6.cell (p := ⟨w.heap.size, 2, none⟩) dl).trans d2
       have mdl := Nat.lt_of_lt_of_le dl hb6.size
       have mB : Hid (Blk w6 l.lb l5.cells 160) := Lib.hid (by rw [← LB5.out]; exact (Ln.grow HL5.out hb6).blk)
       clear hr6 hb6 q1 q2)
    | (refine step_call_gow rfl 117 #[.tmp 59, .tmp 61, .tmp 64] #[158, 3, 3] rfl #[.slice (some ⟨g6, o6, none⟩) N c6, .int .i64 i, .int .i64 ((i : Int) + 1)] (by simp [Act.eval, Act.put, hwi]) (run117 _ _) (fun v w' => Ending.returned v = .returned (.slice (some ⟨g6, o6, none⟩) (N - 1) c6) ∧ Row w' W5.heap.size 171 2 (.slice (some ⟨g6, o6, none⟩) (N - 1) c6) (N - 1) (xs.take (i * 2) ++ xs.drop ((i + 1) * 2)) ∧ Fr (fun k => k = g6) w6 w') (HD6.out.mono (fun e w' ⟨h1, h2, h3⟩ => ⟨_, h1, rfl, h2, h3⟩)) ?_
       rintro v7 w7 ⟨hv7, hr7, hf7⟩
       injection hv7 with hv7
       subst hv7
       have HN7 := Lib.hid (HNX.out w6 w7 g6 o6 c6 HG6.out HB6.out hr7 hf7 HLT.out)
       have HF7 : Hid (Fr (fun k => B ≤ k) W5 w7) := Lib.hid (fr_trans (fr_below HB6.out) (hf7.mono (fun k _ e => by have := HG6.out; have := HB5.out; omega)))
       have hne : ¬ l.lb = g6 := by have := HG6.out; omega
       have mk7 := mB.out.fr hf7 hne
       have n2 : w7.cell? ⟨w.heap.size, 2, none⟩ = some (.int .i64 i) := (hf7.cell (p := ⟨w.heap.size, 2, none⟩) mdl (fun e => by have e9 : w.heap.size = g6 := e; have := HG6.out; omega)).trans m2
       have k10 := mk7.cell 10
       have kf := mk7.free 10
       have kl := mk7.lt
       dsimp only [Lay.cells] at k10
       simp only [List.getElem?_toArray, List.getElem?_cons_succ, List.getElem?_cons_zero] at k10
       clear hr7 hf7 mk7 hne))
  all_goals
    have HF : Hid (LnP w B l (y.wayD 4 i p) (.returned (.tuple #[])) (w7.setCell ⟨l.lb, 10, none⟩ (.slice (some ⟨g6, o6, none⟩) (N - 1) c6))) := Lib.hid (by
      have h7 := HN7.out
      have h8 := congrArg (fun q => w7.setCell ⟨q, 10, none⟩ (.slice (some ⟨g6, o6, none⟩) (N - 1) c6)) LB5.out
      rw [h8] at h7
      rw [HWD.out]
      refine ⟨rfl, { l5 with v := .slice (some ⟨g6, o6, none⟩) (N - 1) c6, z := l5.z }, _, LB5.out, LG5.out, h7, ?_⟩
      · exact (fr_trans HF5.out HF7.out).setCell (p := ⟨l.lb, 10, none⟩) (fun _ => HLOW.out) _)
    go_wp2
    go_end0
    exact HF.out
end
end Go.Proofs.Ythlhjaacjhlkhaa
/- The line's deeds together: what each of them leaves; the line at its start; the deeds in memory. -/
namespace Go.Proofs.Ythlhjaacjhlkhaa
open Go.RowKit
set_option maxHeartbeats 400000
set_option linter.unusedVariables false
set_option linter.unusedSimpArgs false
/-- A deed in memory. -/
structure De where
  k : Int
  e : Int
  n : Int
  A : Option Addr
  m : Nat
  c : Nat
  ds : List Int
namespace De
def zero : De := ⟨0, 0, 0, none, 0, 0, []⟩
def cells (x : De) : List Value := [.int .i64 x.k, .int .i64 x.e, .int .i64 x.n, .slice x.A x.m x.c]
def dd (x : De) : Dd := ⟨x.k, x.e, x.n, x.ds⟩
structure Fine (x : De) (w : World) (B : Nat) : Prop where
  ds : RB w B x.A x.m x.ds
  mc : x.m ≤ x.c ∧ x.c ≤ 9223372036854775807
end De
theorem De.Fine.below {w w' : World} {B B' : Nat} {x : De} (h : x.Fine w B) (hb : Below B' w w') (hB : B ≤ B') : x.Fine w' B := ⟨h.ds.below' hb hB, h.mc⟩
def RDe (w : World) (B : Nat) (A : Option Addr) (n : Nat) (ps : List De) : Prop := RS De.cells 4 w B A n ps ∧ ∀ r ∈ ps, r.Fine w B
theorem RDe.below' {w w' : World} {B B' n : Nat} {A : Option Addr} {ps : List De} (h : RDe w B A n ps) (hb : Below B' w w') (hB : B ≤ B') : RDe w' B A n ps := ⟨h.1.below' hb hB, fun r hr => (h.2 r hr).below hb hB⟩
theorem RDe.at_ {w : World} {B n k : Nat} {A : Option Addr} {ps : List De} (h : RDe w B A n ps) (hk : k < n) : ∃ b o, A = some ⟨b, o, none⟩ ∧ b < B ∧ w.cell? ⟨b, o + k * 4, none⟩ = some (.int .i64 (ps.getD k .zero).k) ∧ w.cell? ⟨b, o + k * 4 + 1, none⟩ = some (.int .i64 (ps.getD k .zero).e) ∧
    w.cell? ⟨b, o + k * 4 + 2, none⟩ = some (.int .i64 (ps.getD k .zero).n) ∧ w.cell? ⟨b, o + k * 4 + 3, none⟩ = some (.slice (ps.getD k .zero).A (ps.getD k .zero).m (ps.getD k .zero).c) ∧ (ps.getD k .zero).Fine w B ∧ ps.length = n := by
  obtain ⟨b, o, e, hb, hm, hc⟩ := RS.at_ (cl := De.cells) (s := 4) (fun _ => rfl) De.zero h.1 hk
  exact ⟨b, o, e, hb, hc 0 _ rfl, hc 1 _ rfl, hc 2 _ rfl, hc 3 _ rfl, h.2 _ hm, h.1.2⟩
theorem LnQ.trans {w w' w'' : World} {B : Nat} {l l' : Lay} {y : Sys} (h : LnQ w' B l' y w'') (hlb : l'.lb = l.lb) (hg : l'.g = l.g) (hf : Fr (fun k => B ≤ k) w w') : LnQ w B l y w'' := by
  obtain ⟨l2, x, h1, h2, h3, h4⟩ := h
  exact ⟨l2, x, h1.trans hlb, h2.trans hg, h3, fr_trans hf h4⟩
theorem LnQ.grow {w w' w'' : World} {B : Nat} {l : Lay} {y : Sys} (h : LnQ w B l y w') (hb : Below w'.heap.size w' w'') : LnQ w B l y w'' := by
  obtain ⟨l2, x, h1, h2, h3, h4⟩ := h
  exact ⟨l2, x, h1, h2, Ln.grow h3 hb, fr_trans h4 (fr_below hb)⟩
section
variable {w : World} {B : Nat} {l : Lay} {y : Sys} {x : Nat → EC} {m : Nat}
theorem deed_any (h : LnS w B l y x) (hok : y.Ok m) (hm : m ≤ 1000) (hB : B ≤ w.heap.size) (kd : Int) (hk : 4 ≤ kd ∧ kd ≤ 6) (ee : Int) (i : Nat) (p : Nat × Sg) (hi : y.way[i]? = some p) (A : Option Addr) (k c : Nat) :
    Calls Try.prog 113 #[.pointer (some ⟨l.lb, 0, none⟩), .agg #[.int .i64 kd, .int .i64 ee, .int .i64 i, .slice A k c]] w (LnP w B l (y.wayD kd i p)) := by
  rcases (by omega : kd = 4 ∨ kd = 5 ∨ kd = 6) with rfl | rfl | rfl
  · have h1 := (hok.way p (List.mem_of_getElem? hi)).1
    rcases (by omega : p.1 = 0 ∨ p.1 = 1) with h0 | h0
    · exact deed_come0 h hok hm hB ee i p hi h0 A k c
    · exact deed_come1 h hok hm hB ee i p hi h0 A k c
  · exact deed_lose h hok hm hB ee i p hi A k c
  · by_cases hr : y.way.length < 64
    · exact deed_copy h hok hm hB ee i p hi hr A k c
    · exact deed_full h hok hm hB ee i p hi hr A k c
theorem deed_own {d : Dd} (hk : 1 ≤ d.k ∧ d.k ≤ 3) (he : d.e = 0 ∨ d.e = 1) : y.deed d = y.onE d.e.toNat (Sys.ownF d) := by
  unfold Sys.deed
  rw [if_pos hk, if_pos he]
theorem own_any (h : LnS w B l y x) (hok : y.Ok m) (hm : m ≤ 1000) (hfn : ∀ e, (y.at e).Fn) (k e n : Int) (hk : 1 ≤ k ∧ k ≤ 3) (he : e = 0 ∨ e = 1) (A : Option Addr) (kk c : Nat) (ds : List Int) (hd : RB w B A kk ds) (hkc : kk ≤ c) (hcm : c ≤ 9223372036854775807) (hB : B ≤ w.heap.size) :
    Calls Try.prog 112 #[.pointer (some ⟨l.lb, 0, none⟩), .agg #[.int .i64 k, .int .i64 e, .int .i64 n, .slice A kk c]] w (LnP w B l (y.deed ⟨k, e, n, ds⟩)) := by
  rw [deed_own hk he]
  rcases (by omega : k = 1 ∨ k = 2 ∨ k = 3) with rfl | rfl | rfl <;> rcases he with rfl | rfl
  · exact own_put0 h hok hm (hfn 0) n A kk c ds hd hkc hcm hB
  · exact own_put1 h hok hm (hfn 1) n A kk c ds hd hkc hcm hB
  · exact own_take0 h hok hm n A kk c hB
  · exact own_take1 h hok hm n A kk c hB
  · exact own_shut0 h hok hm n A kk c hB
  · exact own_shut1 h hok hm n A kk c hB
theorem deed_some (h : LnS w B l y x) (hok : y.Ok m) (hm : m ≤ 1000) (k e : Int) (i : Nat) (hk : 4 ≤ k ∧ k ≤ 6) (hi : i < y.way.length) (A : Option Addr) (kk c : Nat) (ds : List Int) (hB : B ≤ w.heap.size) :
    Calls Try.prog 113 #[.pointer (some ⟨l.lb, 0, none⟩), .agg #[.int .i64 k, .int .i64 e, .int .i64 i, .slice A kk c]] w (LnP w B l (y.deed ⟨k, e, i, ds⟩)) := by
  have h1 : y.deed ⟨k, e, i, ds⟩ = y.wayD k i y.way[i] := by
    unfold Sys.deed
    rw [if_neg (by dsimp only; omega), if_pos hk, if_pos (by dsimp only; omega)]
    have e2 : y.way[((i : Int)).toNat]? = some y.way[i] := by simp
    dsimp only
    rw [e2]
    rfl
  rw [h1]
  exact deed_any h hok hm hB k hk e i _ (List.getElem?_eq_getElem hi) A kk c
theorem deed_else {d : Dd} (h1 : ¬ ((1 ≤ d.k ∧ d.k ≤ 3) ∧ (d.e = 0 ∨ d.e = 1))) (h2 : ¬ ((4 ≤ d.k ∧ d.k ≤ 6) ∧ 0 ≤ d.n ∧ d.n < y.way.length)) (h3 : d.k ≠ 7) : y.deed d = y := by
  unfold Sys.deed
  split
  · rename_i h4
    rw [if_neg (fun h5 => h1 ⟨h4, h5⟩)]
  · split
    · rename_i h4
      split
      · rename_i h5
        have h6 : ¬ d.n < y.way.length := fun h6 => h2 ⟨h4, h5, h6⟩
        have h7 : y.way[d.n.toNat]? = none := List.getElem?_eq_none (by omega)
        rw [h7]
      · rfl
    · first | rfl | rw [if_neg h3]
theorem deed_tick {d : Dd} (h : d.k = 7) : y.deed d = (y.onE 0 Sm.tickedS).onE 1 Sm.tickedS := by
  unfold Sys.deed
  rw [if_neg (by omega), if_neg (by omega), if_pos h]
  rfl
theorem ticked_said (s : Sm) : s.tickedS.said = s.said := by unfold Sm.tickedS; (repeat' split) <;> rfl
theorem ticked_rdL (s : Sm) : s.tickedS.rdL = s.rdL := by unfold Sm.tickedS; (repeat' split) <;> rfl
/-- One end ticks. -/
theorem tick_end (h : LnS w B l y x) (hok : y.Ok m) (hm : m ≤ 1000) {e : Nat} (he : e < 2) : Calls Try.prog 47 #[.pointer (some ⟨l.g e, 0, none⟩)] w (LnP w B l (y.onE e Sm.tickedS)) := by
  have ht := h.tie e he
  have ok := hok.at_ e
  refine (tick47 (h.est e he) ?_ ?_).mono ?_
  · rw [ht.wait]; have := ok.wait; omega
  · rw [ht.tries]; have := ok.tries; omega
  · rintro e9 w' ⟨rfl, hg⟩
    obtain ⟨t1, t2, t3⟩ := tie_ticked ht ok hm
    rw [t2, t3] at hg
    obtain ⟨l4, hlb, hlg, hm4, hf4, -⟩ := Ln.endGo3 h he t1 hg
    exact ⟨rfl, LnS.done he hm4 (fun i hi => (y.said_on e (f := Sm.tickedS) ticked_said i).symm) (fun i hi => (y.rdL_on he (f := Sm.tickedS) (ticked_rdL _) i hi).symm) hlb hlg hf4⟩
end
/-! no end has said more than it may -/
def Sys.Fn (y : Sys) : Prop := y.a.Fn ∧ y.b.Fn
namespace Sys
variable {y : Sys} {m : Nat}
theorem Fn.at_ (h : y.Fn) (e : Nat) : (y.at e).Fn := by unfold Sys.at; split; exact h.1; exact h.2
theorem Fn.onE (h : y.Fn) (e : Nat) {f : Sm → Sm} (hf : ∀ s : Sm, s.Fn → (f s).Fn) : (y.onE e f).Fn := by
  unfold Sys.onE
  split
  · exact ⟨hf _ h.1, h.2⟩
  · exact ⟨h.1, hf _ h.2⟩
theorem Fn.deed (h : y.Fn) (d : Dd) : (y.deed d).Fn := by
  unfold Sys.deed
  split
  · split
    · refine h.onE _ fun s hs => ?_
      unfold ownF
      split
      · exact hs.given _
      · split
        · exact hs.taken _
        · exact hs.closed
    · exact h
  · split
    · split
      · split
        · unfold wayD
          split
          · split
            · exact h
            · exact h
          · split
            · exact h.onE _ fun s hs => hs.came _
            · exact h
        · exact h
      · exact h
    · split
      · exact ⟨h.1.ticked, h.2.ticked⟩
      · exact h
theorem Fn.send (h : y.Fn) (hok : y.Ok m) : y.send.Fn := ⟨Sm.Fn.outs hok.a h.1, Sm.Fn.outs hok.b h.2⟩
theorem runK_fn {a b : Int} {L : List Dd} (ha : 0 ≤ a ∧ a < 4294967296) (hb : 0 ≤ b ∧ b < 4294967296) (hL : ∀ d ∈ L, Byt d.ds) : ∀ k, k ≤ L.length → (runK a b L k).Fn
  | 0, _ => Fn.send ⟨Sm.Fn.start _ _, Sm.Fn.start _ _⟩ (start_ok ha hb)
  | k + 1, hk => by
    rw [runK_succ (by omega)]
    exact Fn.send ((runK_fn ha hb hL k (by omega)).deed _) ((runK_ok ha hb hL k (by omega)).deed (hL _ (List.getElem_mem (by omega : k < L.length))))
end Sys
/-- The line at its start. -/
def lay0 (lb g0 g1 : Nat) : Lay := ⟨lb, fun e => if e = 0 then g0 else g1, fun _ => .slice none 0 0, fun _ => .slice none 0 0, fun _ => .slice none 0 0, fun _ => .slice none 0 0, .slice none 0 0, fun _ => False⟩
theorem lay0_part (lb g0 g1 : Nat) {i k : Nat} {p : Nat → Prop} (h : (lay0 lb g0 g1).parts[i]? = some p) (hk : p k) : (i = 0 ∧ k = lb) ∨ (i = 1 ∧ k = g0) ∨ (i = 2 ∧ k = g1) := by
  have nil : ∀ k, ¬ ownV (.slice none 0 0) k := fun k hk => by simp [ownV, Value.ownBlock] at hk
  match i, h with
  | 0, h => injection h with h; subst h; exact .inl ⟨rfl, hk⟩
  | 1, h => injection h with h; subst h; exact .inr (.inl ⟨rfl, nilF hk⟩)
  | 2, h => injection h with h; subst h; exact .inr (.inr ⟨rfl, nilF hk⟩)
  | 3, h => injection h with h; subst h; exact absurd hk (nil k)
  | 4, h => injection h with h; subst h; exact absurd hk (nil k)
  | 5, h => injection h with h; subst h; exact absurd hk (nil k)
  | 6, h => injection h with h; subst h; exact absurd hk (nil k)
  | 7, h => injection h with h; subst h; exact absurd hk (nil k)
  | 8, h => injection h with h; subst h; exact hk.elim
  | n + 9, h => cases h
theorem Ln.start {w : World} {B lb g0 g1 : Nat} {a b : Int} (ha : 0 ≤ a ∧ a < 4294967296) (hb : 0 ≤ b ∧ b < 4294967296) (h1 : lb ≠ g0) (h2 : lb ≠ g1) (h3 : g0 ≠ g1) (hlow : B ≤ lb) (hblk : Blk w lb (lay0 lb g0 g1).cells 160)
    (he0 : ESt w B g0 (exB 2 a) (.slice none 0 0) (.slice none 0 0) [] []) (he1 : ESt w B g1 (exB 1 b) (.slice none 0 0) (.slice none 0 0) [] []) :
    LnS w B (lay0 lb g0 g1) (Sys.start a b) (fun e => if e = 0 then exB 2 a else exB 1 b) := by
  have l1 := hblk.lt
  have l2 := he0.blk.lt
  have l3 := he1.blk.lt
  refine ⟨hblk, fun e he => ?_, fun e he => ?_, fun e he => ?_, fun e he => ?_, LtL.nil _ _ _, fun i j p q hi hj hne k hk hk' => ?_, fun i p hi k hk => ?_, hlow⟩
  · rcases (by omega : e = 0 ∨ e = 1) with rfl | rfl
    · exact Tie.start 2 a ha (.inr rfl)
    · exact Tie.start 1 b hb (.inl rfl)
  · rcases (by omega : e = 0 ∨ e = 1) with rfl | rfl
    · exact he0
    · exact he1
  · rcases (by omega : e = 0 ∨ e = 1) with rfl | rfl <;> exact Row.nil _ _ _ _
  · rcases (by omega : e = 0 ∨ e = 1) with rfl | rfl <;> exact Row.nil _ _ _ _
  · have := lay0_part lb g0 g1 hi hk
    have := lay0_part lb g0 g1 hj hk'
    omega
  · have := lay0_part lb g0 g1 hi hk
    omega
end Go.Proofs.Ythlhjaacjhlkhaa
