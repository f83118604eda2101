/- One end of a stream, the reference: contract of Came, an end that is not over and a segment without reset. -/
import Derived.Test.YthlhjaacjhlkhaaStW
import Derived.Deep.CutBlock
import Derived.Deep.DeepCutAuto
namespace Go.Proofs.Ythlhjaacjhlkhaa
open Go.RowKit
set_option maxHeartbeats 400000
set_option linter.unusedVariables false
set_option linter.unusedSimpArgs false
/-- Under way in a call of the reference that was handed a segment. -/
structure RPos (w : World) (B q : Nat) (vo vi : Value) (sb : Array Value) (W : World) (s : Sm) (vo' vi' : Value) : Prop where
  o : RSt W B q s vo' vi'
  a : At2 w q vo vi W vo' vi'
  k : ∀ j, W.cell? ⟨w.heap.size, j, none⟩ = sb[j]?
  s : w.heap.size < W.heap.size
  ng : ¬ w.heap.size = q
  nf : ¬ Ob2F q vo' vi' w.heap.size
namespace RPos
variable {w W W' : World} {B q : Nat} {vo vi vo' vi' : Value} {sb : Array Value} {s s' : Sm}
theorem init (h : RSt w B q s vo vi) (hb : Below w.heap.size w W) (hk : ∀ j, W.cell? ⟨w.heap.size, j, none⟩ = sb[j]?) (hs : w.heap.size < W.heap.size) : RPos w B q vo vi sb W s vo vi :=
  ⟨Ob2.grow h hb, At2.grow hb, hk, hs, by have := (Ob2.blk h).lt; omega, fun e => by have := (Ob2.lt h _ e).2; omega⟩
theorem grow (h : RPos w B q vo vi sb W s vo' vi') (hb : Below W.heap.size W W') : RPos w B q vo vi sb W' s vo' vi' :=
  ⟨Ob2.grow h.o hb, h.a.more hb, fun j => (hb.cell (p := ⟨w.heap.size, j, none⟩) h.s).trans (h.k j), Nat.lt_of_lt_of_le h.s hb.size, h.ng, h.nf⟩
theorem drew (h : RPos w B q vo vi sb W s vo' vi') : RPos w B q vo vi sb W.drew s vo' vi' := h.grow ((Below.refl _ _).drew)
theorem drewN (h : RPos w B q vo vi sb W s vo' vi') (m : Nat) : RPos w B q vo vi sb (W.drewN m) s vo' vi' := h.grow (st_drewN (Below.refl _ _) m)
theorem set1 (h : RPos w B q vo vi sb W s vo' vi') (j : Nat) (u : Value) (ha : (rcells s vo' vi').setIfInBounds j u = rcells s' vo' vi') (e1 : s.said = s'.said) (e2 : s.got = s'.got) : RPos w B q vo vi sb (W.setCell ⟨q, j, none⟩ u) s' vo' vi' := by
  have h1 := Ob2.set1 (cs' := rcells s') h.o j u ha
  rw [e1, e2] at h1
  exact ⟨h1.1, h.a.trans h1.2, fun i => (World.cell?_of_block (Below.heap_setCell W _ _ w.heap.size h.ng)).trans (h.k i), by simpa using h.s, h.ng, h.nf⟩
theorem go (h : RPos w B q vo vi sb W s vo' vi') : RSGo w B q vo vi s W := h.a.go h.o
theorem then_ (h : RPos w B q vo vi sb W s vo' vi') (hg : RSGo W B q vo' vi' s' W') : RSGo w B q vo vi s' W' := by
  obtain ⟨v1, v2, a1, a2, a3⟩ := hg
  exact (h.a.trans ⟨a2, a3⟩).go a1
theorem call (h : RPos w B q vo vi sb W s vo' vi') (hg : RSGo W B q vo' vi' s' W') : ∃ v1 v2, RPos w B q vo vi sb W' s' v1 v2 := by
  obtain ⟨v1, v2, a1, a2, a3⟩ := hg
  refine ⟨v1, v2, a1, h.a.trans ⟨a2, a3⟩, fun j => (a2.cell (p := ⟨w.heap.size, j, none⟩) h.s h.nf).trans (h.k j), Nat.lt_of_lt_of_le h.s a2.size, h.ng, fun e => ?_⟩
  rcases a3 _ e with h1 | h1
  · exact h.nf h1
  · have := h.s; omega
end RPos
theorem sg_bits (f : Int) : (f % 2 == 1) = decide (f % 2 = 1) ∧ (f / 2 % 2 * 2 == 2) = decide (f / 2 % 2 = 1) := by
  refine ⟨rfl, ?_⟩
  rcases (by omega : f / 2 % 2 = 0 ∨ f / 2 % 2 = 1) with h | h <;> simp [h]
section
variable {w : World} {B q : Nat} {s : Sm} {vo vi : Value} {m : Nat}
set_option maxHeartbeats 4000000 in
set_option maxRecDepth 100000 in
theorem rcame_on1 (h : RSt w B q s vo vi) (hB : B ≤ w.heap.size) (sq ak f wi : Int) (ds : List Int) (hx : Sg.Fine ⟨sq, ak, f, wi, ds⟩) (A : Option Addr) (n c : Nat) (hd : Far w q vo vi A n ds) (hnc : n ≤ c) (hcm : c ≤ 9223372036854775807) (he : checkI f wi n = 0) (hok : s.Ok m) (hm : m ≤ 1000) (hs5 : s.st ≠ 5) (hr : f / 8 % 2 = 0) (hst3 : s.st = 1) :
    Calls Try.prog 53 #[.pointer (some ⟨q, 0, none⟩), .agg #[.int .u32 sq, .int .u32 ak, .int .i64 f, .int .i64 wi, .slice A n c]] w (RRet 0 w B q vo vi (s.cameS ⟨sq, ak, f, wi, ds⟩)) := by
  have HGB := Lib.hid (fun w' (hb : Below w.heap.size w w') => Ob2.grow h hb)
  have HCK := Lib.hid (fun W => segFault_any sq ak f wi A n c W (by have := hx.flags; dsimp only at this; omega) (by have := hx.window; dsimp only at this; omega))
  rw [he] at HCK
  have HRB := Lib.hid (fun w' v1 v2 (ha : At2 w q vo vi w' v1 v2) => hd.at ha)
  have HINI := Lib.hid (fun w' (hb : Below w.heap.size w w') hk hs => RPos.init (sb := sgb sq ak f wi A n c) (W := w') h hb hk hs)
  have HRM : Hid (s.rd ≤ s.got.length ∧ s.got.length ≤ 1000000) := Lib.hid ⟨hok.rd, by have := hok.got; omega⟩
  have d2 : (s.st == 0) = false := by rw [beq_eq_false_iff_ne]; have := hok.st0; omega
  have d3 : (s.st == 5) = false := by simpa using hs5
  obtain ⟨b1, b2, b4, b8⟩ := flag_bits hx.flags.1 hx.flags.2
  have hqlt := (Ob2.blk h).lt
  have hne : ¬ w.heap.size = q := by omega
  have hkb := (Blk.new w (sgb sq ak f wi A n c) 25)
  have t8 : (f / 8 % 2 * 8 == 8) = false := by rw [hr]; rfl
  obtain ⟨sy, hsy⟩ : ∃ sy, (f % 2 == 1) = sy := ⟨_, rfl⟩
  obtain ⟨ac, hac⟩ : ∃ ac, (f / 2 % 2 * 2 == 2) = ac := ⟨_, rfl⟩
  obtain ⟨ta, hta⟩ : ∃ ta, (ak == s.seqI 1) = ta := ⟨_, rfl⟩
  obtain ⟨tp, htp⟩ : ∃ tp, ((s.top : Int) == 1) = tp := ⟨_, rfl⟩
  obtain ⟨M, hM⟩ : ∃ M, (ac && ta && tp) = M := ⟨_, rfl⟩
  have Hsy : Hid (Sg.syn ⟨sq, ak, f, wi, ds⟩ = sy) := Lib.hid (by rw [← hsy]; exact (sg_bits f).1.symm)
  have Hac : Hid (Sg.ac ⟨sq, ak, f, wi, ds⟩ = ac) := Lib.hid (by rw [← hac]; exact (sg_bits f).2.symm)
  have Hrs : Hid (Sg.rs ⟨sq, ak, f, wi, ds⟩ = false) := Lib.hid (by simp [Sg.rs, hr])
  have HMB : Hid (s.mineB ⟨sq, ak, f, wi, ds⟩ = M) := Lib.hid (by
    rw [← hM, Sm.mineB, Hac.out, ← hta, ← htp]
    have e2 : ((s.top : Int) == 1) = decide (s.top = 1) := by rw [Bool.eq_iff_iff, beq_iff_eq, decide_eq_true_eq]; omega
    rw [e2]
    rfl)
  have HM := Lib.hid hM
  have HX := Lib.hid hx
  have HOK := Lib.hid hok
  have HS5 := Lib.hid hs5
  obtain ⟨S', hS'⟩ : ∃ S', s.cameS ⟨sq, ak, f, wi, ds⟩ = S' := ⟨_, rfl⟩
  rw [hS']
  have HE := Lib.hid hS'
  clear h he hd hM hx hok hs5 hr hS' hm hB
  go_enter Try.func53, Try.ntmps53
  go_wp2_with fail
  refine (HCK.out _).mono ?_
  rintro e w1 ⟨rfl, hbs⟩
  have hbb : Below w.heap.size w w1 := ((Below.refl w.heap.size w).alloc (Nat.le_refl _) (.cells (sgb sq ak f wi A n c) 25)).trans (hbs.mono (by simp))
  have HB1 := Lib.hid hbb
  have hc : ∀ j, w1.cell? ⟨q, j, none⟩ = (rcells s vo vi)[j]? := (Ob2.blk (HGB.out w1 hbb)).cell
  have hk : ∀ j, w1.cell? ⟨w.heap.size, j, none⟩ = (sgb sq ak f wi A n c)[j]? := fun j => (hbs.cell (p := ⟨w.heap.size, j, none⟩) (by simp)).trans (hkb.cell j)
  have hlt := (Ob2.blk (HGB.out w1 hbb)).lt
  have hlk : w.heap.size < w1.heap.size := by have := hbs.size; simp at this; omega
  dsimp only [rcells, sgb] at hc hk
  clear hbs hbb hkb
  go_wp2
  go_quiet (fail)
  obtain ⟨W2, hW2⟩ : ∃ W2, W2 = w1.drewN nq := ⟨_, rfl⟩
  rw [← hW2]
  have hbW : Below w1.heap.size w1 W2 := by rw [hW2]; exact st_drewN (Below.refl _ _) _
  have HB2 := Lib.hid (HB1.out.trans (hbW.mono HB1.out.size))
  have hc2 : ∀ j, W2.cell? ⟨q, j, none⟩ = (rcells s vo vi)[j]? := by rw [hW2]; exact hc
  have hk2 : ∀ j, W2.cell? ⟨w.heap.size, j, none⟩ = (sgb sq ak f wi A n c)[j]? := by rw [hW2]; exact hk
  have hlt2 : q < W2.heap.size := by rw [hW2]; exact hlt
  have hlk2 : w.heap.size < W2.heap.size := by rw [hW2]; exact hlk
  have HP2 := Lib.hid (HINI.out W2 HB2.out hk2 hlk2)
  dsimp only [rcells, sgb] at hc2 hk2
  clear hW2 hbW hc hk hlt hlk
  have HQ := Lib.hid (fun x : Near W2.heap.size W2 => rseq (s := s) (Ob2.grow (HGB.out W2 HB2.out) x.prop) 1)
  go_upto_region 11 with fail
  go_cut [8] (fun m8 wx => m8 = .bool M ∧ Below W2.heap.size W2 wx)
  case first =>
    cases ac <;> cases ta <;> cases tp
    all_goals
      refine wp_region_near W2.heap.size (by kernel_rfl) (by kernel_rfl) ?_
      repeat (go_big_quiet_step (first | (go_at_call 99; exact Calls.near_same (HQ.out _))))
      refine wpQuiet_nil ?_
      intro w3 hb3
      go_wp2
      go_meet
      exact ⟨congrArg Value.bool HM.out, hb3⟩
  case rest =>
    obtain ⟨rfl, hb3⟩ := hcut
    rename World => W3
    have HP3 := Lib.hid (HP2.out.grow hb3)
    have hc3 := HP3.out.o.blk.cell
    have hk3 := HP3.out.k
    have hlt3 := HP3.out.o.blk.lt
    have hlk3 := HP3.out.s
    have hfz3 := HP3.out.o.blk.free
    dsimp only [rcells, sgb] at hc3 hk3
    clear hc2 hk2 hlt2 hlk2 hb3 HQ HP2 HB2 HB1
    clear d2 d3 hta htp HM
    have hst4 : s.st = 1 := hst3
    have e1 : (s.st == 1) = true := by rw [hst4]; rfl
    cases sy with
    | false =>
      have HE1 : Hid (S' = s) := Lib.hid (by rw [← HE.out]; simp [Sm.cameS, Hrs.out, Hsy.out, Hac.out, HMB.out, hst4])
      clear hst4 hst3
      go_wp2
      go_ret
      exact ⟨rfl, by rw [HE1.out]; first | exact HP3.out.go | exact (HP3.out.drewN _).go⟩
    | true =>
      cases ac with
      | true =>
        have HE1 : Hid (S' = s) := Lib.hid (by rw [← HE.out]; simp [Sm.cameS, Hrs.out, Hsy.out, Hac.out, HMB.out, hst4])
        clear hst4 hst3
        go_wp2
        go_ret
        exact ⟨rfl, by rw [HE1.out]; first | exact HP3.out.go | exact (HP3.out.drewN _).go⟩
      | false =>
        have HE1 : Hid (S' = { s with st := 3, irs := sq, peer := wi }) := Lib.hid (by rw [← HE.out]; simp [Sm.cameS, Hrs.out, Hsy.out, Hac.out, HMB.out, hst4])
        have HX1 : Hid (RSGo w B q vo vi { s with st := 3, irs := sq, peer := wi } (((W3.setCell ⟨q, 0, none⟩ (.int .i64 3)).setCell ⟨q, 2, none⟩ (.int .u32 sq)).setCell ⟨q, 9, none⟩ (.int .i64 wi)).drew) := Lib.hid
          (((HP3.out.set1 (s' := { s with st := 3 }) 0 (.int .i64 3) (by simp [rcells]) rfl rfl).set1 (s' := { s with st := 3, irs := sq }) 2 (.int .u32 sq) (by simp [rcells]) rfl rfl).set1 (s' := { s with st := 3, irs := sq, peer := wi }) 9 (.int .i64 wi) (by simp [rcells]) rfl rfl).drew.go
        clear hst4 hst3
        go_wp2
        go_region
        all_goals
          go_wp2
          go_ret
          exact ⟨rfl, by rw [HE1.out]; exact HX1.out⟩
set_option maxHeartbeats 4000000 in
set_option maxRecDepth 100000 in
theorem rcame_on2 (h : RSt w B q s vo vi) (hB : B ≤ w.heap.size) (sq ak f wi : Int) (ds : List Int) (hx : Sg.Fine ⟨sq, ak, f, wi, ds⟩) (A : Option Addr) (n c : Nat) (hd : Far w q vo vi A n ds) (hnc : n ≤ c) (hcm : c ≤ 9223372036854775807) (he : checkI f wi n = 0) (hok : s.Ok m) (hm : m ≤ 1000) (hs5 : s.st ≠ 5) (hr : f / 8 % 2 = 0) (hst3 : s.st = 2) :
    Calls Try.prog 53 #[.pointer (some ⟨q, 0, none⟩), .agg #[.int .u32 sq, .int .u32 ak, .int .i64 f, .int .i64 wi, .slice A n c]] w (RRet 0 w B q vo vi (s.cameS ⟨sq, ak, f, wi, ds⟩)) := by
  have HGB := Lib.hid (fun w' (hb : Below w.heap.size w w') => Ob2.grow h hb)
  have HCK := Lib.hid (fun W => segFault_any sq ak f wi A n c W (by have := hx.flags; dsimp only at this; omega) (by have := hx.window; dsimp only at this; omega))
  rw [he] at HCK
  have HRB := Lib.hid (fun w' v1 v2 (ha : At2 w q vo vi w' v1 v2) => hd.at ha)
  have HINI := Lib.hid (fun w' (hb : Below w.heap.size w w') hk hs => RPos.init (sb := sgb sq ak f wi A n c) (W := w') h hb hk hs)
  have HRM : Hid (s.rd ≤ s.got.length ∧ s.got.length ≤ 1000000) := Lib.hid ⟨hok.rd, by have := hok.got; omega⟩
  have d2 : (s.st == 0) = false := by rw [beq_eq_false_iff_ne]; have := hok.st0; omega
  have d3 : (s.st == 5) = false := by simpa using hs5
  obtain ⟨b1, b2, b4, b8⟩ := flag_bits hx.flags.1 hx.flags.2
  have hqlt := (Ob2.blk h).lt
  have hne : ¬ w.heap.size = q := by omega
  have hkb := (Blk.new w (sgb sq ak f wi A n c) 25)
  have t8 : (f / 8 % 2 * 8 == 8) = false := by rw [hr]; rfl
  obtain ⟨sy, hsy⟩ : ∃ sy, (f % 2 == 1) = sy := ⟨_, rfl⟩
  obtain ⟨ac, hac⟩ : ∃ ac, (f / 2 % 2 * 2 == 2) = ac := ⟨_, rfl⟩
  obtain ⟨ta, hta⟩ : ∃ ta, (ak == s.seqI 1) = ta := ⟨_, rfl⟩
  obtain ⟨tp, htp⟩ : ∃ tp, ((s.top : Int) == 1) = tp := ⟨_, rfl⟩
  obtain ⟨M, hM⟩ : ∃ M, (ac && ta && tp) = M := ⟨_, rfl⟩
  have Hsy : Hid (Sg.syn ⟨sq, ak, f, wi, ds⟩ = sy) := Lib.hid (by rw [← hsy]; exact (sg_bits f).1.symm)
  have Hac : Hid (Sg.ac ⟨sq, ak, f, wi, ds⟩ = ac) := Lib.hid (by rw [← hac]; exact (sg_bits f).2.symm)
  have Hrs : Hid (Sg.rs ⟨sq, ak, f, wi, ds⟩ = false) := Lib.hid (by simp [Sg.rs, hr])
  have HMB : Hid (s.mineB ⟨sq, ak, f, wi, ds⟩ = M) := Lib.hid (by
    rw [← hM, Sm.mineB, Hac.out, ← hta, ← htp]
    have e2 : ((s.top : Int) == 1) = decide (s.top = 1) := by rw [Bool.eq_iff_iff, beq_iff_eq, decide_eq_true_eq]; omega
    rw [e2]
    rfl)
  have HM := Lib.hid hM
  have HX := Lib.hid hx
  have HOK := Lib.hid hok
  have HS5 := Lib.hid hs5
  obtain ⟨S', hS'⟩ : ∃ S', s.cameS ⟨sq, ak, f, wi, ds⟩ = S' := ⟨_, rfl⟩
  rw [hS']
  have HE := Lib.hid hS'
  clear h he hd hM hx hok hs5 hr hS' hm hB
  go_enter Try.func53, Try.ntmps53
  go_wp2_with fail
  refine (HCK.out _).mono ?_
  rintro e w1 ⟨rfl, hbs⟩
  have hbb : Below w.heap.size w w1 := ((Below.refl w.heap.size w).alloc (Nat.le_refl _) (.cells (sgb sq ak f wi A n c) 25)).trans (hbs.mono (by simp))
  have HB1 := Lib.hid hbb
  have hc : ∀ j, w1.cell? ⟨q, j, none⟩ = (rcells s vo vi)[j]? := (Ob2.blk (HGB.out w1 hbb)).cell
  have hk : ∀ j, w1.cell? ⟨w.heap.size, j, none⟩ = (sgb sq ak f wi A n c)[j]? := fun j => (hbs.cell (p := ⟨w.heap.size, j, none⟩) (by simp)).trans (hkb.cell j)
  have hlt := (Ob2.blk (HGB.out w1 hbb)).lt
  have hlk : w.heap.size < w1.heap.size := by have := hbs.size; simp at this; omega
  dsimp only [rcells, sgb] at hc hk
  clear hbs hbb hkb
  go_wp2
  go_quiet (fail)
  obtain ⟨W2, hW2⟩ : ∃ W2, W2 = w1.drewN nq := ⟨_, rfl⟩
  rw [← hW2]
  have hbW : Below w1.heap.size w1 W2 := by rw [hW2]; exact st_drewN (Below.refl _ _) _
  have HB2 := Lib.hid (HB1.out.trans (hbW.mono HB1.out.size))
  have hc2 : ∀ j, W2.cell? ⟨q, j, none⟩ = (rcells s vo vi)[j]? := by rw [hW2]; exact hc
  have hk2 : ∀ j, W2.cell? ⟨w.heap.size, j, none⟩ = (sgb sq ak f wi A n c)[j]? := by rw [hW2]; exact hk
  have hlt2 : q < W2.heap.size := by rw [hW2]; exact hlt
  have hlk2 : w.heap.size < W2.heap.size := by rw [hW2]; exact hlk
  have HP2 := Lib.hid (HINI.out W2 HB2.out hk2 hlk2)
  dsimp only [rcells, sgb] at hc2 hk2
  clear hW2 hbW hc hk hlt hlk
  have HQ := Lib.hid (fun x : Near W2.heap.size W2 => rseq (s := s) (Ob2.grow (HGB.out W2 HB2.out) x.prop) 1)
  go_upto_region 11 with fail
  go_cut [8] (fun m8 wx => m8 = .bool M ∧ Below W2.heap.size W2 wx)
  case first =>
    cases ac <;> cases ta <;> cases tp
    all_goals
      refine wp_region_near W2.heap.size (by kernel_rfl) (by kernel_rfl) ?_
      repeat (go_big_quiet_step (first | (go_at_call 99; exact Calls.near_same (HQ.out _))))
      refine wpQuiet_nil ?_
      intro w3 hb3
      go_wp2
      go_meet
      exact ⟨congrArg Value.bool HM.out, hb3⟩
  case rest =>
    obtain ⟨rfl, hb3⟩ := hcut
    rename World => W3
    have HP3 := Lib.hid (HP2.out.grow hb3)
    have hc3 := HP3.out.o.blk.cell
    have hk3 := HP3.out.k
    have hlt3 := HP3.out.o.blk.lt
    have hlk3 := HP3.out.s
    have hfz3 := HP3.out.o.blk.free
    dsimp only [rcells, sgb] at hc3 hk3
    clear hc2 hk2 hlt2 hlk2 hb3 HQ HP2 HB2 HB1
    clear d2 d3 hta htp HM
    have hst4 : s.st = 2 := hst3
    have e1 : (s.st == 1) = false := by rw [hst4]; rfl
    have e2 : (s.st == 2) = true := by rw [hst4]; rfl
    cases sy with
    | false =>
      have HE1 : Hid (S' = s) := Lib.hid (by rw [← HE.out]; simp [Sm.cameS, Hrs.out, Hsy.out, Hac.out, HMB.out, hst4])
      clear hst4 hst3
      go_wp2
      go_ret
      exact ⟨rfl, by rw [HE1.out]; first | exact HP3.out.go | exact (HP3.out.drewN _).go⟩
    | true =>
      cases M with
      | false =>
        have HE1 : Hid (S' = s) := Lib.hid (by rw [← HE.out]; simp [Sm.cameS, Hrs.out, Hsy.out, Hac.out, HMB.out, hst4])
        clear hst4 hst3
        go_wp2
        go_ret
        exact ⟨rfl, by rw [HE1.out]; first | exact HP3.out.go | exact (HP3.out.drewN _).go⟩
      | true =>
        have HE1 : Hid (S' = Sm.openS { s with irs := sq, due := true } wi) := Lib.hid (by rw [← HE.out]; simp [Sm.cameS, Hrs.out, Hsy.out, Hac.out, HMB.out, hst4])
        have HP4 : Hid (RPos w B q vo vi (sgb sq ak f wi A n c) ((W3.setCell ⟨q, 2, none⟩ (.int .u32 sq)).setCell ⟨q, 12, none⟩ (.bool true)) { s with irs := sq, due := true } vo vi) := Lib.hid
          ((HP3.out.set1 (s' := { s with irs := sq }) 2 (.int .u32 sq) (by simp [rcells]) rfl rfl).set1 (s' := { s with irs := sq, due := true }) 12 (.bool true) (by simp [rcells]) rfl rfl)
        clear hst4 hst3
        go_wp2_with fail
        refine (ropen HP4.out.o wi).mono ?_
        rintro e w5 ⟨rfl, hgo⟩
        have HG := Lib.hid (HP4.out.then_ hgo)
        clear hgo
        go_wp2
        go_ret
        exact ⟨rfl, by rw [HE1.out]; exact HG.out⟩
set_option maxHeartbeats 4000000 in
set_option maxRecDepth 100000 in
theorem rcame_on3 (h : RSt w B q s vo vi) (hB : B ≤ w.heap.size) (sq ak f wi : Int) (ds : List Int) (hx : Sg.Fine ⟨sq, ak, f, wi, ds⟩) (A : Option Addr) (n c : Nat) (hd : Far w q vo vi A n ds) (hnc : n ≤ c) (hcm : c ≤ 9223372036854775807) (he : checkI f wi n = 0) (hok : s.Ok m) (hm : m ≤ 1000) (hs5 : s.st ≠ 5) (hr : f / 8 % 2 = 0) (hst3 : s.st = 3) :
    Calls Try.prog 53 #[.pointer (some ⟨q, 0, none⟩), .agg #[.int .u32 sq, .int .u32 ak, .int .i64 f, .int .i64 wi, .slice A n c]] w (RRet 0 w B q vo vi (s.cameS ⟨sq, ak, f, wi, ds⟩)) := by
  have HGB := Lib.hid (fun w' (hb : Below w.heap.size w w') => Ob2.grow h hb)
  have HCK := Lib.hid (fun W => segFault_any sq ak f wi A n c W (by have := hx.flags; dsimp only at this; omega) (by have := hx.window; dsimp only at this; omega))
  rw [he] at HCK
  have HRB := Lib.hid (fun w' v1 v2 (ha : At2 w q vo vi w' v1 v2) => hd.at ha)
  have HINI := Lib.hid (fun w' (hb : Below w.heap.size w w') hk hs => RPos.init (sb := sgb sq ak f wi A n c) (W := w') h hb hk hs)
  have HRM : Hid (s.rd ≤ s.got.length ∧ s.got.length ≤ 1000000) := Lib.hid ⟨hok.rd, by have := hok.got; omega⟩
  have d2 : (s.st == 0) = false := by rw [beq_eq_false_iff_ne]; have := hok.st0; omega
  have d3 : (s.st == 5) = false := by simpa using hs5
  obtain ⟨b1, b2, b4, b8⟩ := flag_bits hx.flags.1 hx.flags.2
  have hqlt := (Ob2.blk h).lt
  have hne : ¬ w.heap.size = q := by omega
  have hkb := (Blk.new w (sgb sq ak f wi A n c) 25)
  have t8 : (f / 8 % 2 * 8 == 8) = false := by rw [hr]; rfl
  obtain ⟨sy, hsy⟩ : ∃ sy, (f % 2 == 1) = sy := ⟨_, rfl⟩
  obtain ⟨ac, hac⟩ : ∃ ac, (f / 2 % 2 * 2 == 2) = ac := ⟨_, rfl⟩
  obtain ⟨ta, hta⟩ : ∃ ta, (ak == s.seqI 1) = ta := ⟨_, rfl⟩
  obtain ⟨tp, htp⟩ : ∃ tp, ((s.top : Int) == 1) = tp := ⟨_, rfl⟩
  obtain ⟨M, hM⟩ : ∃ M, (ac && ta && tp) = M := ⟨_, rfl⟩
  have Hsy : Hid (Sg.syn ⟨sq, ak, f, wi, ds⟩ = sy) := Lib.hid (by rw [← hsy]; exact (sg_bits f).1.symm)
  have Hac : Hid (Sg.ac ⟨sq, ak, f, wi, ds⟩ = ac) := Lib.hid (by rw [← hac]; exact (sg_bits f).2.symm)
  have Hrs : Hid (Sg.rs ⟨sq, ak, f, wi, ds⟩ = false) := Lib.hid (by simp [Sg.rs, hr])
  have HMB : Hid (s.mineB ⟨sq, ak, f, wi, ds⟩ = M) := Lib.hid (by
    rw [← hM, Sm.mineB, Hac.out, ← hta, ← htp]
    have e2 : ((s.top : Int) == 1) = decide (s.top = 1) := by rw [Bool.eq_iff_iff, beq_iff_eq, decide_eq_true_eq]; omega
    rw [e2]
    rfl)
  have HM := Lib.hid hM
  have HX := Lib.hid hx
  have HOK := Lib.hid hok
  have HS5 := Lib.hid hs5
  obtain ⟨S', hS'⟩ : ∃ S', s.cameS ⟨sq, ak, f, wi, ds⟩ = S' := ⟨_, rfl⟩
  rw [hS']
  have HE := Lib.hid hS'
  clear h he hd hM hx hok hs5 hr hS' hm hB
  go_enter Try.func53, Try.ntmps53
  go_wp2_with fail
  refine (HCK.out _).mono ?_
  rintro e w1 ⟨rfl, hbs⟩
  have hbb : Below w.heap.size w w1 := ((Below.refl w.heap.size w).alloc (Nat.le_refl _) (.cells (sgb sq ak f wi A n c) 25)).trans (hbs.mono (by simp))
  have HB1 := Lib.hid hbb
  have hc : ∀ j, w1.cell? ⟨q, j, none⟩ = (rcells s vo vi)[j]? := (Ob2.blk (HGB.out w1 hbb)).cell
  have hk : ∀ j, w1.cell? ⟨w.heap.size, j, none⟩ = (sgb sq ak f wi A n c)[j]? := fun j => (hbs.cell (p := ⟨w.heap.size, j, none⟩) (by simp)).trans (hkb.cell j)
  have hlt := (Ob2.blk (HGB.out w1 hbb)).lt
  have hlk : w.heap.size < w1.heap.size := by have := hbs.size; simp at this; omega
  dsimp only [rcells, sgb] at hc hk
  clear hbs hbb hkb
  go_wp2
  go_quiet (fail)
  obtain ⟨W2, hW2⟩ : ∃ W2, W2 = w1.drewN nq := ⟨_, rfl⟩
  rw [← hW2]
  have hbW : Below w1.heap.size w1 W2 := by rw [hW2]; exact st_drewN (Below.refl _ _) _
  have HB2 := Lib.hid (HB1.out.trans (hbW.mono HB1.out.size))
  have hc2 : ∀ j, W2.cell? ⟨q, j, none⟩ = (rcells s vo vi)[j]? := by rw [hW2]; exact hc
  have hk2 : ∀ j, W2.cell? ⟨w.heap.size, j, none⟩ = (sgb sq ak f wi A n c)[j]? := by rw [hW2]; exact hk
  have hlt2 : q < W2.heap.size := by rw [hW2]; exact hlt
  have hlk2 : w.heap.size < W2.heap.size := by rw [hW2]; exact hlk
  have HP2 := Lib.hid (HINI.out W2 HB2.out hk2 hlk2)
  dsimp only [rcells, sgb] at hc2 hk2
  clear hW2 hbW hc hk hlt hlk
  have HQ := Lib.hid (fun x : Near W2.heap.size W2 => rseq (s := s) (Ob2.grow (HGB.out W2 HB2.out) x.prop) 1)
  go_upto_region 11 with fail
  go_cut [8] (fun m8 wx => m8 = .bool M ∧ Below W2.heap.size W2 wx)
  case first =>
    cases ac <;> cases ta <;> cases tp
    all_goals
      refine wp_region_near W2.heap.size (by kernel_rfl) (by kernel_rfl) ?_
      repeat (go_big_quiet_step (first | (go_at_call 99; exact Calls.near_same (HQ.out _))))
      refine wpQuiet_nil ?_
      intro w3 hb3
      go_wp2
      go_meet
      exact ⟨congrArg Value.bool HM.out, hb3⟩
  case rest =>
    obtain ⟨rfl, hb3⟩ := hcut
    rename World => W3
    have HP3 := Lib.hid (HP2.out.grow hb3)
    have hc3 := HP3.out.o.blk.cell
    have hk3 := HP3.out.k
    have hlt3 := HP3.out.o.blk.lt
    have hlk3 := HP3.out.s
    have hfz3 := HP3.out.o.blk.free
    dsimp only [rcells, sgb] at hc3 hk3
    clear hc2 hk2 hlt2 hlk2 hb3 HQ HP2 HB2 HB1
    clear d2 d3 hta htp HM
    have hst4 : s.st = 3 := hst3
    have e1 : (s.st == 1) = false := by rw [hst4]; rfl
    have e2 : (s.st == 2) = false := by rw [hst4]; rfl
    have e3 : (s.st == 3) = true := by rw [hst4]; rfl
    cases sy with
    | false =>
      cases M with
      | false =>
        have HE1 : Hid (S' = s) := Lib.hid (by rw [← HE.out]; simp [Sm.cameS, Hrs.out, Hsy.out, Hac.out, HMB.out, hst4])
        clear hst4 hst3
        go_wp2
        go_quiet (fail)
        obtain ⟨W4, hW4⟩ : ∃ W4, W4 = W3.drewN nq := ⟨_, rfl⟩
        rw [← hW4]
        have HP4 : Hid (RPos w B q vo vi (sgb sq ak f wi A n c) W4 s vo vi) := Lib.hid (by rw [hW4]; exact HP3.out.drewN _)
        clear hW4 hc3 hk3 hlt3 hlk3 hfz3
        have hc4 := HP4.out.o.blk.cell
        have hk4 := HP4.out.k
        have hlt4 := HP4.out.o.blk.lt
        have hlk4 := HP4.out.s
        have hfz4 := HP4.out.o.blk.free
        dsimp only [rcells, sgb] at hc4 hk4
        go_wp2
        go_ret
        exact ⟨rfl, by rw [HE1.out]; exact HP4.out.go⟩
      | true =>
        have HE1 : Hid (S' = Sm.dataS (s.openS wi) ⟨sq, ak, f, wi, ds⟩) := Lib.hid (by rw [← HE.out]; simp [Sm.cameS, Hrs.out, Hsy.out, Hac.out, HMB.out, hst4])
        clear hst4 hst3
        go_wp2
        go_quiet (fail)
        obtain ⟨W4, hW4⟩ : ∃ W4, W4 = W3.drewN nq := ⟨_, rfl⟩
        rw [← hW4]
        have HP4 : Hid (RPos w B q vo vi (sgb sq ak f wi A n c) W4 s vo vi) := Lib.hid (by rw [hW4]; exact HP3.out.drewN _)
        clear hW4 hc3 hk3 hlt3 hlk3 hfz3
        have hc4 := HP4.out.o.blk.cell
        have hk4 := HP4.out.k
        have hlt4 := HP4.out.o.blk.lt
        have hlk4 := HP4.out.s
        have hfz4 := HP4.out.o.blk.free
        dsimp only [rcells, sgb] at hc4 hk4
        go_wp2_with fail
        refine (ropen HP4.out.o wi).mono ?_
        rintro e w5 ⟨rfl, hgo⟩
        obtain ⟨v1, v2, hP5⟩ := HP4.out.call hgo
        have HP5 := Lib.hid hP5
        have hk5 := hP5.k
        have hlk5 := hP5.s
        dsimp only [sgb] at hk5
        clear hgo hP5 hc4 hk4 hlt4 hlk4 hfz4
        have HD := Lib.hid (rdata (s := s.openS wi) HP5.out.o (by have := (Ob2.lt HP5.out.o q (.inl rfl)).1; have := HP5.out.s; omega) ⟨sq, ak, f, wi, ds⟩ HX.out A n c (HRB.out w5 _ _ HP5.out.a) hnc hcm HRM.out.1 HRM.out.2)
        go_wp2_with fail
        refine HD.out.mono ?_
        rintro e w6 ⟨rfl, hgo⟩
        have HG := Lib.hid (HP5.out.then_ hgo)
        clear hgo
        go_wp2
        go_ret
        exact ⟨rfl, by rw [HE1.out]; exact HG.out⟩
    | true =>
      obtain ⟨tq, htq⟩ : ∃ tq, (sq == s.irs) = tq := ⟨_, rfl⟩
      cases tq with
      | true =>
        have HTQ : Hid (sq = s.irs) := Lib.hid (by simpa using htq)
        have HE1 : Hid (S' = { s with nxt := 0 }) := Lib.hid (by rw [← HE.out]; simp [Sm.cameS, Hrs.out, Hsy.out, Hac.out, HMB.out, hst4, if_pos HTQ.out])
        clear hst4 hst3
        go_wp2
        go_quiet (fail)
        obtain ⟨W4, hW4⟩ : ∃ W4, W4 = W3.drewN nq := ⟨_, rfl⟩
        rw [← hW4]
        have HP4 : Hid (RPos w B q vo vi (sgb sq ak f wi A n c) W4 s vo vi) := Lib.hid (by rw [hW4]; exact HP3.out.drewN _)
        clear hW4 hc3 hk3 hlt3 hlk3 hfz3
        have hc4 := HP4.out.o.blk.cell
        have hk4 := HP4.out.k
        have hlt4 := HP4.out.o.blk.lt
        have hlk4 := HP4.out.s
        have hfz4 := HP4.out.o.blk.free
        dsimp only [rcells, sgb] at hc4 hk4
        have HP5 : Hid (RPos w B q vo vi (sgb sq ak f wi A n c) (W4.setCell ⟨q, 7, none⟩ (.int .i64 0)) { s with nxt := 0 } vo vi) := Lib.hid (HP4.out.set1 (s' := { s with nxt := 0 }) 7 (.int .i64 0) (by simp [rcells]) rfl rfl)
        go_wp2
        go_ret
        exact ⟨rfl, by rw [HE1.out]; exact HP5.out.go⟩
      | false =>
        have HTQ : Hid (¬ sq = s.irs) := Lib.hid (by simpa using htq)
        have HE1 : Hid (S' = s) := Lib.hid (by rw [← HE.out]; simp [Sm.cameS, Hrs.out, Hsy.out, Hac.out, HMB.out, hst4, HTQ.out])
        clear hst4 hst3
        cases M
        all_goals
          go_wp2
          go_quiet (fail)
          obtain ⟨W4, hW4⟩ : ∃ W4, W4 = W3.drewN nq := ⟨_, rfl⟩
          rw [← hW4]
          have HP4 : Hid (RPos w B q vo vi (sgb sq ak f wi A n c) W4 s vo vi) := Lib.hid (by rw [hW4]; exact HP3.out.drewN _)
          clear hW4 hc3 hk3 hlt3 hlk3 hfz3
          have hc4 := HP4.out.o.blk.cell
          have hk4 := HP4.out.k
          have hlt4 := HP4.out.o.blk.lt
          have hlk4 := HP4.out.s
          have hfz4 := HP4.out.o.blk.free
          dsimp only [rcells, sgb] at hc4 hk4
          go_wp2
          go_ret
          exact ⟨rfl, by rw [HE1.out]; exact HP4.out.go⟩
end
end Go.Proofs.Ythlhjaacjhlkhaa
