/- One end of a stream, the reference: contract of Came at an open end; the whole of Came. -/
import Derived.Test.YthlhjaacjhlkhaaStY
namespace Go.Proofs.Ythlhjaacjhlkhaa
open Go.RowKit
set_option maxHeartbeats 400000
set_option linter.unusedVariables false
set_option linter.unusedSimpArgs false
section
variable {w : World} {B q : Nat} {s : Sm} {vo vi : Value} {m : Nat}
set_option maxHeartbeats 8000000 in
set_option maxRecDepth 100000 in
theorem rcame_on4 (h : RSt w B q s vo vi) (hB : B ≤ w.heap.size) (sq ak f wi : Int) (ds : List Int) (hx : Sg.Fine ⟨sq, ak, f, wi, ds⟩) (A : Option Addr) (n c : Nat) (hd : Far w q vo vi A n ds) (hnc : n ≤ c) (hcm : c ≤ 9223372036854775807) (he : checkI f wi n = 0) (hok : s.Ok m) (hm : m ≤ 1000) (hs5 : s.st ≠ 5) (hr : f / 8 % 2 = 0) (hst3 : s.st = 4) :
    Calls Try.prog 53 #[.pointer (some ⟨q, 0, none⟩), .agg #[.int .u32 sq, .int .u32 ak, .int .i64 f, .int .i64 wi, .slice A n c]] w (RRet 0 w B q vo vi (s.cameS ⟨sq, ak, f, wi, ds⟩)) := by
  have HGB := Lib.hid (fun w' (hb : Below w.heap.size w w') => Ob2.grow h hb)
  have HCK := Lib.hid (fun W => segFault_any sq ak f wi A n c W (by have := hx.flags; dsimp only at this; omega) (by have := hx.window; dsimp only at this; omega))
  rw [he] at HCK
  have HRB := Lib.hid (fun w' v1 v2 (ha : At2 w q vo vi w' v1 v2) => hd.at ha)
  have HINI := Lib.hid (fun w' (hb : Below w.heap.size w w') hk hs => RPos.init (sb := sgb sq ak f wi A n c) (W := w') h hb hk hs)
  have HRM : Hid (s.rd ≤ s.got.length ∧ s.got.length ≤ 1000000) := Lib.hid ⟨hok.rd, by have := hok.got; omega⟩
  have HTOP : Hid (s.top ≤ 64002) := Lib.hid (by have := hok.tl; have := hok.said; omega)
  have d2 : (s.st == 0) = false := by rw [beq_eq_false_iff_ne]; have := hok.st0; omega
  have d3 : (s.st == 5) = false := by simpa using hs5
  obtain ⟨b1, b2, b4, b8⟩ := flag_bits hx.flags.1 hx.flags.2
  have hqlt := (Ob2.blk h).lt
  have hne : ¬ w.heap.size = q := by omega
  have hkb := (Blk.new w (sgb sq ak f wi A n c) 25)
  have t8 : (f / 8 % 2 * 8 == 8) = false := by rw [hr]; rfl
  obtain ⟨sy, hsy⟩ : ∃ sy, (f % 2 == 1) = sy := ⟨_, rfl⟩
  obtain ⟨ac, hac⟩ : ∃ ac, (f / 2 % 2 * 2 == 2) = ac := ⟨_, rfl⟩
  obtain ⟨ta, hta⟩ : ∃ ta, (ak == s.seqI 1) = ta := ⟨_, rfl⟩
  obtain ⟨tp, htp⟩ : ∃ tp, ((s.top : Int) == 1) = tp := ⟨_, rfl⟩
  obtain ⟨M, hM⟩ : ∃ M, (ac && ta && tp) = M := ⟨_, rfl⟩
  have Hsy : Hid (Sg.syn ⟨sq, ak, f, wi, ds⟩ = sy) := Lib.hid (by rw [← hsy]; exact (sg_bits f).1.symm)
  have Hac : Hid (Sg.ac ⟨sq, ak, f, wi, ds⟩ = ac) := Lib.hid (by rw [← hac]; exact (sg_bits f).2.symm)
  have Hrs : Hid (Sg.rs ⟨sq, ak, f, wi, ds⟩ = false) := Lib.hid (by simp [Sg.rs, hr])
  have HMB : Hid (s.mineB ⟨sq, ak, f, wi, ds⟩ = M) := Lib.hid (by
    rw [← hM, Sm.mineB, Hac.out, ← hta, ← htp]
    have e2 : ((s.top : Int) == 1) = decide (s.top = 1) := by rw [Bool.eq_iff_iff, beq_iff_eq, decide_eq_true_eq]; omega
    rw [e2]
    rfl)
  have HM := Lib.hid hM
  have HX := Lib.hid hx
  have HOK := Lib.hid hok
  have HS5 := Lib.hid hs5
  obtain ⟨S', hS'⟩ : ∃ S', s.cameS ⟨sq, ak, f, wi, ds⟩ = S' := ⟨_, rfl⟩
  rw [hS']
  have HE := Lib.hid hS'
  clear h he hd hM hx hok hs5 hr hS' hm hB
  go_enter Try.func53, Try.ntmps53
  go_wp2_with fail
  refine (HCK.out _).mono ?_
  rintro e w1 ⟨rfl, hbs⟩
  have hbb : Below w.heap.size w w1 := ((Below.refl w.heap.size w).alloc (Nat.le_refl _) (.cells (sgb sq ak f wi A n c) 25)).trans (hbs.mono (by simp))
  have HB1 := Lib.hid hbb
  have hc : ∀ j, w1.cell? ⟨q, j, none⟩ = (rcells s vo vi)[j]? := (Ob2.blk (HGB.out w1 hbb)).cell
  have hk : ∀ j, w1.cell? ⟨w.heap.size, j, none⟩ = (sgb sq ak f wi A n c)[j]? := fun j => (hbs.cell (p := ⟨w.heap.size, j, none⟩) (by simp)).trans (hkb.cell j)
  have hlt := (Ob2.blk (HGB.out w1 hbb)).lt
  have hlk : w.heap.size < w1.heap.size := by have := hbs.size; simp at this; omega
  dsimp only [rcells, sgb] at hc hk
  clear hbs hbb hkb
  go_wp2
  go_quiet (fail)
  obtain ⟨W2, hW2⟩ : ∃ W2, W2 = w1.drewN nq := ⟨_, rfl⟩
  rw [← hW2]
  have hbW : Below w1.heap.size w1 W2 := by rw [hW2]; exact st_drewN (Below.refl _ _) _
  have HB2 := Lib.hid (HB1.out.trans (hbW.mono HB1.out.size))
  have hc2 : ∀ j, W2.cell? ⟨q, j, none⟩ = (rcells s vo vi)[j]? := by rw [hW2]; exact hc
  have hk2 : ∀ j, W2.cell? ⟨w.heap.size, j, none⟩ = (sgb sq ak f wi A n c)[j]? := by rw [hW2]; exact hk
  have hlt2 : q < W2.heap.size := by rw [hW2]; exact hlt
  have hlk2 : w.heap.size < W2.heap.size := by rw [hW2]; exact hlk
  have HP2 := Lib.hid (HINI.out W2 HB2.out hk2 hlk2)
  dsimp only [rcells, sgb] at hc2 hk2
  clear hW2 hbW hc hk hlt hlk
  have HQ := Lib.hid (fun x : Near W2.heap.size W2 => rseq (s := s) (Ob2.grow (HGB.out W2 HB2.out) x.prop) 1)
  go_upto_region 11 with fail
  go_cut [8] (fun m8 wx => m8 = .bool M ∧ Below W2.heap.size W2 wx)
  case first =>
    cases ac <;> cases ta <;> cases tp
    all_goals
      refine wp_region_near W2.heap.size (by kernel_rfl) (by kernel_rfl) ?_
      repeat (go_big_quiet_step (first | (go_at_call 99; exact Calls.near_same (HQ.out _))))
      refine wpQuiet_nil ?_
      intro w3 hb3
      go_wp2
      go_meet
      exact ⟨congrArg Value.bool HM.out, hb3⟩
  case rest =>
    obtain ⟨rfl, hb3⟩ := hcut
    rename World => W3
    have HP3 := Lib.hid (HP2.out.grow hb3)
    have hc3 := HP3.out.o.blk.cell
    have hk3 := HP3.out.k
    have hlt3 := HP3.out.o.blk.lt
    have hlk3 := HP3.out.s
    have hfz3 := HP3.out.o.blk.free
    dsimp only [rcells, sgb] at hc3 hk3
    clear hc2 hk2 hlt2 hlk2 hb3 HQ HP2 HB2 HB1
    clear d2 d3 hta htp HM
    have hst4 : s.st = 4 := hst3
    have e1 : (s.st == 1) = false := by rw [hst4]; rfl
    have e2 : (s.st == 2) = false := by rw [hst4]; rfl
    have e3 : (s.st == 3) = false := by rw [hst4]; rfl
    have e4 : (s.st == 4) = true := by rw [hst4]; rfl
    obtain ⟨dn, hdn⟩ : ∃ dn : Nat, (ak - s.seqI s.una) % 4294967296 = dn := ⟨((ak - s.seqI s.una) % 4294967296).toNat, by omega⟩
    have hdb : dn < 4294967296 := by omega
    have HDI : Hid (s.dI ⟨sq, ak, f, wi, ds⟩ = dn) := Lib.hid hdn
    have htop := HTOP.out
    have hnt := HOK.out.nt
    have hun := HOK.out.un
    have HST := Lib.hid hst4
    have HQ2 := Lib.hid (fun x : Near W3.heap.size W3 => rseq (s := s) (Ob2.grow HP3.out.o x.prop) s.una)
    clear hst3 hst4
    cases sy with
    | true =>
      cases ac
      all_goals
        have HE1 : Hid (S' = Sm.dataS (s) ⟨sq, ak, f, wi, ds⟩) := Lib.hid (by rw [← HE.out]; simp [Sm.cameS, Hrs.out, Hsy.out, HST.out])
        go_wp2_with fail
        refine wp_region_near W3.heap.size (by kernel_rfl) (by kernel_rfl) ?_
        repeat (go_big_quiet_step (first | (go_at_call 99; exact Calls.near_same (HQ2.out _))))
        refine wpQuiet_nil ?_
        intro w4 hb4
        obtain ⟨W4, hWW4⟩ : ∃ W, W = w4 := ⟨_, rfl⟩
        rw [← hWW4]
        have HPW4 : Hid (RPos w B q vo vi (sgb sq ak f wi A n c) W4 s vo vi) := Lib.hid (by rw [hWW4]; exact HP3.out.grow hb4)
        clear hWW4
        clear hdn hc3 hk3 hlt3 hlk3 hfz3 HQ2 e1 e2 e3 e4
        have hc := HPW4.out.o.blk.cell
        have hk := HPW4.out.k
        have hlt := HPW4.out.o.blk.lt
        have hlk := HPW4.out.s
        have hfz := HPW4.out.o.blk.free
        dsimp only [rcells, sgb] at hc hk
        clear hb4
        go_wp2_with fail
        go_quiet (fail)
        obtain ⟨W5, hWW5⟩ : ∃ W, W = W4.drewN nq := ⟨_, rfl⟩
        rw [← hWW5]
        have HPW5 : Hid (RPos w B q vo vi (sgb sq ak f wi A n c) W5 s vo vi) := Lib.hid (by rw [hWW5]; exact HPW4.out.drewN _)
        clear hWW5
        clear hc hk hlt hlk hfz
        have hc := HPW5.out.o.blk.cell
        have hk := HPW5.out.k
        have hlt := HPW5.out.o.blk.lt
        have hlk := HPW5.out.s
        have hfz := HPW5.out.o.blk.free
        dsimp only [rcells, sgb] at hc hk
        have HP9 := HPW5
        clear hc hk hlt hlk hfz
        have hk9 := HP9.out.k
        have hlk9 := HP9.out.s
        dsimp only [sgb] at hk9
        have HD := Lib.hid (rdata (s := s) HP9.out.o (by have := (Ob2.lt HP9.out.o q (.inl rfl)).1; have := HP9.out.s; omega) ⟨sq, ak, f, wi, ds⟩ HX.out A n c (HRB.out _ _ _ HP9.out.a) hnc hcm HRM.out.1 HRM.out.2)
        go_wp2_with fail
        refine HD.out.mono ?_
        rintro e w9 ⟨rfl, hgo⟩
        have HG := Lib.hid (HP9.out.then_ hgo)
        clear hgo
        go_wp2
        go_ret
        exact ⟨rfl, by rw [HE1.out]; exact HG.out⟩
    | false =>
      cases ac with
      | false =>
        have HE1 : Hid (S' = Sm.dataS (s) ⟨sq, ak, f, wi, ds⟩) := Lib.hid (by rw [← HE.out]; simp [Sm.cameS, Hrs.out, Hsy.out, HST.out, Sm.answerS, Hac.out])
        go_wp2_with fail
        refine wp_region_near W3.heap.size (by kernel_rfl) (by kernel_rfl) ?_
        repeat (go_big_quiet_step (first | (go_at_call 99; exact Calls.near_same (HQ2.out _))))
        refine wpQuiet_nil ?_
        intro w4 hb4
        obtain ⟨W4, hWW4⟩ : ∃ W, W = w4 := ⟨_, rfl⟩
        rw [← hWW4]
        have HPW4 : Hid (RPos w B q vo vi (sgb sq ak f wi A n c) W4 s vo vi) := Lib.hid (by rw [hWW4]; exact HP3.out.grow hb4)
        clear hWW4
        clear hdn hc3 hk3 hlt3 hlk3 hfz3 HQ2 e1 e2 e3 e4
        have hc := HPW4.out.o.blk.cell
        have hk := HPW4.out.k
        have hlt := HPW4.out.o.blk.lt
        have hlk := HPW4.out.s
        have hfz := HPW4.out.o.blk.free
        dsimp only [rcells, sgb] at hc hk
        clear hb4
        go_wp2_with fail
        go_quiet (fail)
        obtain ⟨W5, hWW5⟩ : ∃ W, W = W4.drewN nq := ⟨_, rfl⟩
        rw [← hWW5]
        have HPW5 : Hid (RPos w B q vo vi (sgb sq ak f wi A n c) W5 s vo vi) := Lib.hid (by rw [hWW5]; exact HPW4.out.drewN _)
        clear hWW5
        clear hc hk hlt hlk hfz
        have hc := HPW5.out.o.blk.cell
        have hk := HPW5.out.k
        have hlt := HPW5.out.o.blk.lt
        have hlk := HPW5.out.s
        have hfz := HPW5.out.o.blk.free
        dsimp only [rcells, sgb] at hc hk
        have HP9 := HPW5
        clear hc hk hlt hlk hfz
        have hk9 := HP9.out.k
        have hlk9 := HP9.out.s
        dsimp only [sgb] at hk9
        have HD := Lib.hid (rdata (s := s) HP9.out.o (by have := (Ob2.lt HP9.out.o q (.inl rfl)).1; have := HP9.out.s; omega) ⟨sq, ak, f, wi, ds⟩ HX.out A n c (HRB.out _ _ _ HP9.out.a) hnc hcm HRM.out.1 HRM.out.2)
        go_wp2_with fail
        refine HD.out.mono ?_
        rintro e w9 ⟨rfl, hgo⟩
        have HG := Lib.hid (HP9.out.then_ hgo)
        clear hgo
        go_wp2
        go_ret
        exact ⟨rfl, by rw [HE1.out]; exact HG.out⟩
      | true =>
        by_cases hle : (dn : Int) ≤ s.top - s.una
        rotate_left
        · have d9 : decide ((dn : Int) ≤ (s.top : Int) - s.una) = false := by simpa using hle
          have HE1 : Hid (S' = Sm.dataS (s) ⟨sq, ak, f, wi, ds⟩) := Lib.hid (by rw [← HE.out]; simp [Sm.cameS, Hrs.out, Hsy.out, HST.out, Sm.answerS, Hac.out, HDI.out, hle])
          clear hle
          go_wp2_with fail
          refine wp_region_near W3.heap.size (by kernel_rfl) (by kernel_rfl) ?_
          repeat (go_big_quiet_step (first | (go_at_call 99; exact Calls.near_same (HQ2.out _))))
          refine wpQuiet_nil ?_
          intro w4 hb4
          obtain ⟨W4, hWW4⟩ : ∃ W, W = w4 := ⟨_, rfl⟩
          rw [← hWW4]
          have HPW4 : Hid (RPos w B q vo vi (sgb sq ak f wi A n c) W4 s vo vi) := Lib.hid (by rw [hWW4]; exact HP3.out.grow hb4)
          clear hWW4
          clear hdn hc3 hk3 hlt3 hlk3 hfz3 HQ2 e1 e2 e3 e4
          have hc := HPW4.out.o.blk.cell
          have hk := HPW4.out.k
          have hlt := HPW4.out.o.blk.lt
          have hlk := HPW4.out.s
          have hfz := HPW4.out.o.blk.free
          dsimp only [rcells, sgb] at hc hk
          clear hb4
          go_wp2_with fail
          go_quiet (fail)
          obtain ⟨W5, hWW5⟩ : ∃ W, W = W4.drewN nq := ⟨_, rfl⟩
          rw [← hWW5]
          have HPW5 : Hid (RPos w B q vo vi (sgb sq ak f wi A n c) W5 s vo vi) := Lib.hid (by rw [hWW5]; exact HPW4.out.drewN _)
          clear hWW5
          clear hc hk hlt hlk hfz
          have hc := HPW5.out.o.blk.cell
          have hk := HPW5.out.k
          have hlt := HPW5.out.o.blk.lt
          have hlk := HPW5.out.s
          have hfz := HPW5.out.o.blk.free
          dsimp only [rcells, sgb] at hc hk
          have HP9 := HPW5
          clear hc hk hlt hlk hfz
          have hk9 := HP9.out.k
          have hlk9 := HP9.out.s
          dsimp only [sgb] at hk9
          have HD := Lib.hid (rdata (s := s) HP9.out.o (by have := (Ob2.lt HP9.out.o q (.inl rfl)).1; have := HP9.out.s; omega) ⟨sq, ak, f, wi, ds⟩ HX.out A n c (HRB.out _ _ _ HP9.out.a) hnc hcm HRM.out.1 HRM.out.2)
          go_wp2_with fail
          refine HD.out.mono ?_
          rintro e w9 ⟨rfl, hgo⟩
          have HG := Lib.hid (HP9.out.then_ hgo)
          clear hgo
          go_wp2
          go_ret
          exact ⟨rfl, by rw [HE1.out]; exact HG.out⟩
        have d9 : decide ((dn : Int) ≤ (s.top : Int) - s.una) = true := by simpa using hle
        have HLE := Lib.hid hle
        have hdt : s.una + dn ≤ s.top := by omega
        clear hle
        have HAN : Hid (∀ S1 : Sm, S1 = { s with tries := 0, peer := wi, una := s.una + dn, wait := if 0 < (dn : Int) then 0 else s.wait, nxt := max s.nxt (s.una + dn) } → S' = Sm.dataS S1 ⟨sq, ak, f, wi, ds⟩) := Lib.hid (fun S1 h1 => by
          rw [← HE.out, h1]
          have e5 : s.answerS ⟨sq, ak, f, wi, ds⟩ = { s with tries := 0, peer := wi, una := s.una + dn, wait := if 0 < (dn : Int) then 0 else s.wait, nxt := max s.nxt (s.una + dn) } := by
            unfold Sm.answerS
            rw [HDI.out, if_pos ⟨Hac.out, HLE.out⟩]
            simp only [Int.toNat_natCast]
          simp [Sm.cameS, Hrs.out, Hsy.out, HST.out, e5])
        go_wp2_with fail
        refine wp_region_near W3.heap.size (by kernel_rfl) (by kernel_rfl) ?_
        repeat (go_big_quiet_step (first | (go_at_call 99; exact Calls.near_same (HQ2.out _))))
        refine wpQuiet_nil ?_
        intro w4 hb4
        obtain ⟨W4, hWW4⟩ : ∃ W, W = w4 := ⟨_, rfl⟩
        rw [← hWW4]
        have HPW4 : Hid (RPos w B q vo vi (sgb sq ak f wi A n c) W4 s vo vi) := Lib.hid (by rw [hWW4]; exact HP3.out.grow hb4)
        clear hWW4
        clear hdn hc3 hk3 hlt3 hlk3 hfz3 HQ2 e1 e2 e3 e4
        have hc := HPW4.out.o.blk.cell
        have hk := HPW4.out.k
        have hlt := HPW4.out.o.blk.lt
        have hlk := HPW4.out.s
        have hfz := HPW4.out.o.blk.free
        dsimp only [rcells, sgb] at hc hk
        clear hb4
        go_wp2_with fail
        go_quiet (fail)
        obtain ⟨W5, hWW5⟩ : ∃ W, W = W4.drewN nq := ⟨_, rfl⟩
        rw [← hWW5]
        have HPW5 : Hid (RPos w B q vo vi (sgb sq ak f wi A n c) W5 s vo vi) := Lib.hid (by rw [hWW5]; exact HPW4.out.drewN _)
        clear hWW5
        clear hc hk hlt hlk hfz
        have hc := HPW5.out.o.blk.cell
        have hk := HPW5.out.k
        have hlt := HPW5.out.o.blk.lt
        have hlk := HPW5.out.s
        have hfz := HPW5.out.o.blk.free
        dsimp only [rcells, sgb] at hc hk
        have HX6 : Hid (RPos w B q vo vi (sgb sq ak f wi A n c) ((W5.setCell ⟨q, 14, none⟩ (.int .i64 0)).setCell ⟨q, 9, none⟩ (.int .i64 wi)).drew { s with tries := 0, peer := wi } vo vi) := Lib.hid
          ((HPW5.out.set1 (s' := { s with tries := 0 }) 14 (.int .i64 0) (by simp [rcells]) rfl rfl).set1 (s' := { s with tries := 0, peer := wi }) 9 (.int .i64 wi) (by simp [rcells]) rfl rfl).drew
        go_wp2_with fail
        go_region
        all_goals
          obtain ⟨W6, hWW6⟩ : ∃ W, W = ((W5.setCell ⟨q, 14, none⟩ (.int .i64 0)).setCell ⟨q, 9, none⟩ (.int .i64 wi)).drew := ⟨_, rfl⟩
          rw [← hWW6]
          have HPW6 : Hid (RPos w B q vo vi (sgb sq ak f wi A n c) W6 { s with tries := 0, peer := wi } vo vi) := Lib.hid (by rw [hWW6]; exact HX6.out)
          clear hWW6
          clear hc hk hlt hlk hfz
          have hc := HPW6.out.o.blk.cell
          have hk := HPW6.out.k
          have hlt := HPW6.out.o.blk.lt
          have hlk := HPW6.out.s
          have hfz := HPW6.out.o.blk.free
          dsimp only [rcells, sgb] at hc hk
          clear HX6
          by_cases hz : dn = 0
          · subst hz
            have z1 : decide (0 < ((0 : Nat) : Int)) = false := by decide
            have z2 : decide ((s.nxt : Int) < s.una) = false := by simp; omega
            have HE1 : Hid (S' = Sm.dataS { s with tries := 0, peer := wi } ⟨sq, ak, f, wi, ds⟩) := Lib.hid (HAN.out _ (by
              rw [Sm.mk.injEq]
              refine ⟨rfl, rfl, rfl, rfl, rfl, rfl, rfl, ?_, rfl, rfl, rfl, rfl, rfl, rfl, rfl⟩
              omega))
            clear d9
            go_wp2_with fail
            go_quiet (fail)
            obtain ⟨W8, hWW8⟩ : ∃ W, W = W6.drewN nq := ⟨_, rfl⟩
            rw [← hWW8]
            have HPW8 : Hid (RPos w B q vo vi (sgb sq ak f wi A n c) W8 { s with tries := 0, peer := wi } vo vi) := Lib.hid (by rw [hWW8]; exact HPW6.out.drewN _)
            clear hWW8
            clear hc hk hlt hlk hfz
            have hc := HPW8.out.o.blk.cell
            have hk := HPW8.out.k
            have hlt := HPW8.out.o.blk.lt
            have hlk := HPW8.out.s
            have hfz := HPW8.out.o.blk.free
            dsimp only [rcells, sgb] at hc hk
            have HP9 := HPW8
            clear hc hk hlt hlk hfz
            have hk9 := HP9.out.k
            have hlk9 := HP9.out.s
            dsimp only [sgb] at hk9
            have HD := Lib.hid (rdata (s := { s with tries := 0, peer := wi }) HP9.out.o (by have := (Ob2.lt HP9.out.o q (.inl rfl)).1; have := HP9.out.s; omega) ⟨sq, ak, f, wi, ds⟩ HX.out A n c (HRB.out _ _ _ HP9.out.a) hnc hcm HRM.out.1 HRM.out.2)
            go_wp2_with fail
            refine HD.out.mono ?_
            rintro e w9 ⟨rfl, hgo⟩
            have HG := Lib.hid (HP9.out.then_ hgo)
            clear hgo
            go_wp2
            go_ret
            exact ⟨rfl, by rw [HE1.out]; exact HG.out⟩
          have hpos : 0 < dn := by omega
          have z1 : decide (0 < dn) = true := by simpa using hpos
          have HX7 : Hid (RPos w B q vo vi (sgb sq ak f wi A n c) ((W6.setCell ⟨q, 6, none⟩ (.int .i64 ((s.una : Int) + dn))).setCell ⟨q, 13, none⟩ (.int .i64 0)) { s with tries := 0, peer := wi, una := s.una + dn, wait := 0 } vo vi) := Lib.hid
            ((HPW6.out.set1 (s' := { s with tries := 0, peer := wi, una := s.una + dn }) 6 (.int .i64 ((s.una : Int) + dn)) (by simp [rcells]) rfl rfl).set1 (s' := { s with tries := 0, peer := wi, una := s.una + dn, wait := 0 }) 13 (.int .i64 0) (by simp [rcells]) rfl rfl)
          have HZ := Lib.hid hz
          clear d9 hz
          go_wp2_with fail
          obtain ⟨W7, hWW7⟩ : ∃ W, W = (W6.setCell ⟨q, 6, none⟩ (.int .i64 ((s.una : Int) + dn))).setCell ⟨q, 13, none⟩ (.int .i64 0) := ⟨_, rfl⟩
          rw [← hWW7]
          have HPW7 : Hid (RPos w B q vo vi (sgb sq ak f wi A n c) W7 { s with tries := 0, peer := wi, una := s.una + dn, wait := 0 } vo vi) := Lib.hid (by rw [hWW7]; exact HX7.out)
          clear hWW7
          clear hc hk hlt hlk hfz
          have hc := HPW7.out.o.blk.cell
          have hk := HPW7.out.k
          have hlt := HPW7.out.o.blk.lt
          have hlk := HPW7.out.s
          have hfz := HPW7.out.o.blk.free
          dsimp only [rcells, sgb] at hc hk
          clear HX7
          have hcu : ((s.una + dn : Nat) : Int) = (s.una : Int) + dn := by omega
          rw [hcu] at hc
          by_cases hn : s.nxt < s.una + dn
          · have z2 : decide ((s.nxt : Int) < (s.una : Int) + dn) = true := by simp; omega
            have HE1 : Hid (S' = Sm.dataS { s with tries := 0, peer := wi, una := s.una + dn, wait := 0, nxt := s.una + dn } ⟨sq, ak, f, wi, ds⟩) := Lib.hid (HAN.out _ (by
              rw [Sm.mk.injEq]
              refine ⟨rfl, rfl, rfl, rfl, rfl, rfl, rfl, ?_, rfl, rfl, rfl, rfl, rfl, ?_, rfl⟩
              · omega
              · rw [if_pos (by have := HZ.out; omega)]))
            clear hn hcu
            go_quiet (fail)
            obtain ⟨W8, hWW8⟩ : ∃ W, W = W7.drewN nq := ⟨_, rfl⟩
            rw [← hWW8]
            have HPW8 : Hid (RPos w B q vo vi (sgb sq ak f wi A n c) W8 { s with tries := 0, peer := wi, una := s.una + dn, wait := 0 } vo vi) := Lib.hid (by rw [hWW8]; exact HPW7.out.drewN _)
            clear hWW8
            clear hc hk hlt hlk hfz
            have hc := HPW8.out.o.blk.cell
            have hk := HPW8.out.k
            have hlt := HPW8.out.o.blk.lt
            have hlk := HPW8.out.s
            have hfz := HPW8.out.o.blk.free
            dsimp only [rcells, sgb] at hc hk
            have hcu : ((s.una + dn : Nat) : Int) = (s.una : Int) + dn := by omega
            rw [hcu] at hc
            clear hcu
            have HP9 : Hid (RPos w B q vo vi (sgb sq ak f wi A n c) (W8.setCell ⟨q, 7, none⟩ (.int .i64 ((s.una : Int) + dn))) { s with tries := 0, peer := wi, una := s.una + dn, wait := 0, nxt := s.una + dn } vo vi) := Lib.hid (HPW8.out.set1 (s' := { s with tries := 0, peer := wi, una := s.una + dn, wait := 0, nxt := s.una + dn }) 7 (.int .i64 ((s.una : Int) + dn)) (by simp [rcells]) rfl rfl)
            have hk9 := HP9.out.k
            have hlk9 := HP9.out.s
            dsimp only [sgb] at hk9
            have HD := Lib.hid (rdata (s := { s with tries := 0, peer := wi, una := s.una + dn, wait := 0, nxt := s.una + dn }) HP9.out.o (by have := (Ob2.lt HP9.out.o q (.inl rfl)).1; have := HP9.out.s; omega) ⟨sq, ak, f, wi, ds⟩ HX.out A n c (HRB.out _ _ _ HP9.out.a) hnc hcm HRM.out.1 HRM.out.2)
            clear hk9 hlk9
            go_wp2_with fail
            refine HD.out.mono ?_
            rintro e w9 ⟨rfl, hgo⟩
            have HG := Lib.hid (HP9.out.then_ hgo)
            clear hgo
            go_wp2
            go_ret
            exact ⟨rfl, by rw [HE1.out]; exact HG.out⟩
          · have z2 : decide ((s.nxt : Int) < (s.una : Int) + dn) = false := by simp; omega
            have HE1 : Hid (S' = Sm.dataS { s with tries := 0, peer := wi, una := s.una + dn, wait := 0 } ⟨sq, ak, f, wi, ds⟩) := Lib.hid (HAN.out _ (by
              rw [Sm.mk.injEq]
              refine ⟨rfl, rfl, rfl, rfl, rfl, rfl, rfl, ?_, rfl, rfl, rfl, rfl, rfl, ?_, rfl⟩
              · omega
              · rw [if_pos (by have := HZ.out; omega)]))
            clear hn hcu
            go_quiet (fail)
            obtain ⟨W8, hWW8⟩ : ∃ W, W = W7.drewN nq := ⟨_, rfl⟩
            rw [← hWW8]
            have HPW8 : Hid (RPos w B q vo vi (sgb sq ak f wi A n c) W8 { s with tries := 0, peer := wi, una := s.una + dn, wait := 0 } vo vi) := Lib.hid (by rw [hWW8]; exact HPW7.out.drewN _)
            clear hWW8
            clear hc hk hlt hlk hfz
            have hc := HPW8.out.o.blk.cell
            have hk := HPW8.out.k
            have hlt := HPW8.out.o.blk.lt
            have hlk := HPW8.out.s
            have hfz := HPW8.out.o.blk.free
            dsimp only [rcells, sgb] at hc hk
            have HP9 := HPW8
            clear hc hk hlt hlk hfz
            have hk9 := HP9.out.k
            have hlk9 := HP9.out.s
            dsimp only [sgb] at hk9
            have HD := Lib.hid (rdata (s := { s with tries := 0, peer := wi, una := s.una + dn, wait := 0 }) HP9.out.o (by have := (Ob2.lt HP9.out.o q (.inl rfl)).1; have := HP9.out.s; omega) ⟨sq, ak, f, wi, ds⟩ HX.out A n c (HRB.out _ _ _ HP9.out.a) hnc hcm HRM.out.1 HRM.out.2)
            go_wp2_with fail
            refine HD.out.mono ?_
            rintro e w9 ⟨rfl, hgo⟩
            have HG := Lib.hid (HP9.out.then_ hgo)
            clear hgo
            go_wp2
            go_ret
            exact ⟨rfl, by rw [HE1.out]; exact HG.out⟩
/-- P51.5. -/
theorem rcameF (h : RSt w B q s vo vi) (hB : B ≤ w.heap.size) (x : Sg) (hs : 0 ≤ x.seq ∧ x.seq < 4294967296) (ha : 0 ≤ x.ack ∧ x.ack < 4294967296) (hf : -9223372036854775808 ≤ x.flags ∧ x.flags ≤ 9223372036854775807) (hwi : -9223372036854775808 ≤ x.window ∧ x.window ≤ 9223372036854775807) (A : Option Addr) (n c : Nat) (hd : Far w q vo vi A n x.dat) (hnc : n ≤ c) (hcm : c ≤ 9223372036854775807) (hok : s.Ok m) (hm : m ≤ 1000) :
    Calls Try.prog 53 #[.pointer (some ⟨q, 0, none⟩), .agg #[.int .u32 x.seq, .int .u32 x.ack, .int .i64 x.flags, .int .i64 x.window, .slice A n c]] w (RRet (s.cameE (checkI x.flags x.window n)) w B q vo vi (if checkI x.flags x.window n = 0 then s.cameS x else s)) := by
  obtain ⟨sq, ak, f, wi, ds⟩ := x
  dsimp only at *
  have hln := hd.len
  by_cases he : checkI f wi n = 0
  · rw [if_pos he]
    have hx : Sg.Fine ⟨sq, ak, f, wi, ds⟩ := by
      unfold checkI at he
      split at he
      · cases he
      · split at he
        · cases he
        · exact ⟨hs, ha, by show 0 ≤ f ∧ f ≤ 15; omega, by show 0 ≤ wi ∧ wi ≤ 255; omega, by show ds.length ≤ 32; omega, hd.byt⟩
    by_cases h5 : s.st = 5
    · have e1 : s.cameE (checkI f wi n) = 8 := by unfold Sm.cameE; rw [he, if_neg (by decide), if_pos h5]
      have e2 : s.cameS ⟨sq, ak, f, wi, ds⟩ = s := by unfold Sm.cameS; rw [if_pos h5]
      rw [e1, e2]
      exact rcame_over h sq ak f wi A n c hf hwi he h5
    · have e1 : s.cameE (checkI f wi n) = 0 := by unfold Sm.cameE; rw [he, if_neg (by decide), if_neg h5]
      rw [e1]
      have hf' := hx.flags
      dsimp only at hf'
      have hw' := hx.window
      dsimp only at hw'
      by_cases hr : f / 8 % 2 = 1
      · have e2 : s.cameS ⟨sq, ak, f, wi, ds⟩ = if 1 < s.st then { s with st := 5 } else s := by
          unfold Sm.cameS
          rw [if_neg h5, if_pos (by simp [Sg.rs, hr])]
        rw [e2]
        exact rcame_reset h sq ak f wi A n c hf' hw' he h5 hok.st0 hr
      · have hr0 : f / 8 % 2 = 0 := by omega
        have h0 := hok.st0
        have h6 := hok.st5
        rcases (by omega : s.st = 1 ∨ s.st = 2 ∨ s.st = 3 ∨ s.st = 4) with h1 | h1 | h1 | h1
        · exact rcame_on1 h hB sq ak f wi ds hx A n c hd hnc hcm he hok hm h5 hr0 h1
        · exact rcame_on2 h hB sq ak f wi ds hx A n c hd hnc hcm he hok hm h5 hr0 h1
        · exact rcame_on3 h hB sq ak f wi ds hx A n c hd hnc hcm he hok hm h5 hr0 h1
        · exact rcame_on4 h hB sq ak f wi ds hx A n c hd hnc hcm he hok hm h5 hr0 h1
  · rw [if_neg he]
    have e1 : s.cameE (checkI f wi n) = checkI f wi n := by unfold Sm.cameE; rw [if_pos he]
    rw [e1]
    exact rcame_bad h sq ak f wi A n c hf hwi he
theorem rcame (h : RSt w B q s vo vi) (hB : B ≤ w.heap.size) (x : Sg) (hs : 0 ≤ x.seq ∧ x.seq < 4294967296) (ha : 0 ≤ x.ack ∧ x.ack < 4294967296) (hf : -9223372036854775808 ≤ x.flags ∧ x.flags ≤ 9223372036854775807) (hwi : -9223372036854775808 ≤ x.window ∧ x.window ≤ 9223372036854775807) (A : Option Addr) (n c : Nat) (hd : RB w B A n x.dat) (hnc : n ≤ c) (hcm : c ≤ 9223372036854775807) (hok : s.Ok m) (hm : m ≤ 1000) :
    Calls Try.prog 53 #[.pointer (some ⟨q, 0, none⟩), .agg #[.int .u32 x.seq, .int .u32 x.ack, .int .i64 x.flags, .int .i64 x.window, .slice A n c]] w (RRet (s.cameE (checkI x.flags x.window n)) w B q vo vi (if checkI x.flags x.window n = 0 then s.cameS x else s)) :=
  rcameF h hB x hs ha hf hwi A n c (Far.of hd hB (fun k hk => (Ob2.lt h k hk).1)) hnc hcm hok hm
end
end Go.Proofs.Ythlhjaacjhlkhaa
