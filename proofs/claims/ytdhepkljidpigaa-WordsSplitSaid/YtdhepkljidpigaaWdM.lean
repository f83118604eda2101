/- (*words.reader).word (printed by mkWdM.py). -/
import Derived.Test.YtdhepkljidpigaaWdL
namespace Go.Proofs.Ytdhepkljidpigaa
open Go.RowKit
set_option maxHeartbeats 400000
set_option linter.unusedVariables false
set_option linter.unusedSimpArgs false
/-- What stands at the head of word's loop. -/
def WMid (w : World) (B g : Nat) (s : ByteArray) (R : WRes) (wr : World) : Prop :=
  ∃ j ps bad A n c, VMid w B g s j bad A n c ps wr ∧ ((bad = -1 ∧ Hid (R = wd s ⟨j, none, ps⟩) ∧ j ≤ s.size ∧ Few j ps) ∨ ∃ b : Nat, bad = b ∧ Hid (R = .error b))
def WPost (B g : Nat) (s : ByteArray) (R : WRes) (w : World) (e : Ending) (w' : World) : Prop :=
  e = .returned (.tuple #[]) ∧ FrG B g w w' ∧ ∃ k ps bad, RdAt w' B g s k bad ps ∧ ((bad = -1 ∧ R = .ok (ps, k) ∧ k ≤ s.size ∧ Few k ps) ∨ ∃ b : Nat, bad = b ∧ R = .error b)
theorem stp_wx {s : ByteArray} {ps : List Pt} : wd s ⟨s.size, none, ps⟩ = .ok (ps, s.size) :=
  wd_inl (by unfold stp; dsimp only; rw [if_pos (Nat.le_refl _)])
theorem stp_wo {s : ByteArray} {j : Nat} {ps : List Pt} (h : j < s.size) (hc : bt s j = 32 ∨ (opS (s.extract j s.size)).size ≠ 0) : wd s ⟨j, none, ps⟩ = .ok (ps, j) :=
  wd_inl (by unfold stp; dsimp only; rw [if_neg (show ¬ s.size ≤ j by omega), if_pos hc])
def resW (s : ByteArray) : Nat ⊕ (Nat × List Pt) → WRes
  | .inl b => .error b
  | .inr (k', ps') => wd s ⟨k', none, ps'⟩
section
variable {s : ByteArray} {j : Nat} {ps : List Pt} (h : j < s.size) (ho : ¬ (bt s j = 32 ∨ (opS (s.extract j s.size)).size ≠ 0))
include h ho
theorem stp_ws (hc : bt s j = 39) : wd s ⟨j, none, ps⟩ = resW s (sgl s j ps) := by
  unfold sgl
  by_cases hq : qi s j < 0
  · rw [if_pos hq]
    exact wd_inl (by unfold stp; dsimp only; rw [if_neg (show ¬ s.size ≤ j by omega), if_neg ho, if_pos hc, if_pos hq]; rfl)
  · rw [if_neg hq]
    refine wd_inr ?_ h ?_
    · unfold stp
      dsimp only
      rw [if_neg (show ¬ s.size ≤ j by omega), if_neg ho, if_pos hc, if_neg hq]
    · dsimp only; omega
theorem stp_wq (hc : bt s j = 34) : wd s ⟨j, none, ps⟩ = wd s ⟨j + 1, some j, ps⟩ :=
  wd_inr (by unfold stp; dsimp only; rw [if_neg (show ¬ s.size ≤ j by omega), if_neg ho, if_neg (by omega), if_pos hc]) h (by dsimp only; omega)
theorem stp_wv (hc : bt s j = 36) : wd s ⟨j, none, ps⟩ = wd s ⟨varK s j, none, varP s j ps false⟩ :=
  wd_inr (by unfold stp; dsimp only; rw [if_neg (show ¬ s.size ≤ j by omega), if_neg ho, if_neg (by omega), if_neg (by omega), if_pos hc]) h (varK_le s j h).1
omit h in
theorem stp_wb (hc : bt s j = 92) (h1 : j + 1 = s.size) : wd s ⟨j, none, ps⟩ = .error j :=
  wd_inl (by unfold stp; dsimp only; rw [if_neg (show ¬ s.size ≤ j by omega), if_neg ho, if_neg (by omega), if_neg (by omega), if_neg (by omega), if_pos hc, if_pos h1])
theorem stp_we (hc : bt s j = 92) (h1 : j + 1 ≠ s.size) : wd s ⟨j, none, ps⟩ = wd s ⟨j + 2, none, addP ps (s.extract (j + 1) (j + 2)) true⟩ :=
  wd_inr (by unfold stp; dsimp only; rw [if_neg (show ¬ s.size ≤ j by omega), if_neg ho, if_neg (by omega), if_neg (by omega), if_neg (by omega), if_pos hc, if_neg h1]) h (by dsimp only; omega)
theorem stp_wd (h1 : bt s j ≠ 39) (h2 : bt s j ≠ 34) (h3 : bt s j ≠ 36) (h4 : bt s j ≠ 92) : wd s ⟨j, none, ps⟩ = wd s ⟨j + 1, none, addP ps (s.extract j (j + 1)) false⟩ :=
  wd_inr (by unfold stp; dsimp only; rw [if_neg (show ¬ s.size ≤ j by omega), if_neg ho, if_neg h1, if_neg h2, if_neg h3, if_neg h4]) h (by dsimp only; omega)
end
theorem sgl_few {s : ByteArray} {j : Nat} {ps : List Pt} (hf : Few j ps) : match sgl s j ps with | .inl b => b = j | .inr (k', ps') => j < k' ∧ k' ≤ s.size ∧ Few k' ps' := by
  unfold sgl
  rcases qi_spec s j with e | ⟨i, e, hi⟩
  · rw [e, if_pos (show (-1 : Int) < 0 by omega)]
  · rw [e, if_neg (show ¬ (i : Int) < 0 by omega)]
    refine ⟨by omega, by rw [Int.toNat_natCast]; omega, ?_⟩
    rw [Nat.add_assoc]
    exact hf.add _ _ (by simp; omega) (by omega)
theorem bytes_none {O : ByteArray} (h : O.size = 0) : O.toList.isEmpty = true := by
  have h' := empty_text (s := O)
  rw [decide_eq_true h] at h'
  cases hl : O.toList with
  | nil => rfl
  | cons x y => rw [hl] at h'; cases h'
theorem bytes_some {O : ByteArray} (h : O.size ≠ 0) : O.toList.isEmpty = false := by
  have h' := empty_text (s := O)
  rw [decide_eq_false h] at h'
  cases hl : O.toList with
  | nil => rw [hl] at h'; cases h'
  | cons x y => rfl
/-- The fault that a reader holds: 0 where there is none. -/
noncomputable def badOf (w : World) (g : Nat) : Nat := match w.cell? ⟨g, 3, none⟩ with | some (.int _ n) => if n < 0 then 1 else 0 | _ => 0
theorem badOf_at {w : World} {B g : Nat} {s : ByteArray} {k : Nat} {bad : Int} {A : Option Addr} {n c : Nat} {ps : List Pt} (h : RdSt w B g s k bad A n c ps) : badOf w g = if bad < 0 then 1 else 0 := by
  have h1 := h.blk.cell 3
  unfold badOf
  rw [h1]
  rfl
noncomputable def mea (s : ByteArray) (w : World) (g : Nat) : Nat := (s.size - posOf w g) + badOf w g * (s.size + 1)
theorem mea_lt (s : ByteArray) (a b : Nat) : (s.size - a) + 0 * (s.size + 1) < (s.size - b) + 1 * (s.size + 1) := by omega
set_option maxHeartbeats 2000000 in
set_option maxRecDepth 100000 in
theorem word_any (B g : Nat) (s : ByteArray) (k : Nat) (A : Option Addr) (n c : Nat) (ps : List Pt) (w : World) (h : RdSt w B g s k (-1) A n c ps) (hk : k ≤ s.size) (hs : s.size ≤ 200) (hf : Few k ps) :
    Calls Try.prog 12 #[.pointer (some ⟨g, 0, none⟩)] w (WPost B g s (wd s ⟨k, none, ps⟩) w) := by
  have HO := Lib.hid (fun (t : ByteArray) W => op_any t W)
  obtain ⟨R, hR⟩ : ∃ R, R = wd s ⟨k, none, ps⟩ := ⟨_, rfl⟩
  rw [← hR]
  have HD : Hid (WMid w B g s R w) := Lib.hid ⟨k, ps, -1, A, n, c, ⟨h, FrG.refl B g w⟩, .inl ⟨rfl, Lib.hid hR, hk, hf⟩⟩
  clear h hf hR
  go_enter Try.func12, Try.ntmps12
  go_wp2_with fail
  go_loopw [2] (fun _ wr => WMid w B g s R wr) (fun _ wr => mea s wr g)
  case atStart => exact HD.out
  case round =>
    clear HD A n c ps
    obtain ⟨j, ps, bad, A, n, c, hm, hc⟩ := hrel
    obtain ⟨c0, lg, fz⟩ := hm.name
    rcases hc with ⟨rfl, hRj, hj2, hfw⟩ | ⟨b, rfl, hRb⟩
    rotate_left
    · have hbq : decide ((b : Int) < 0) = false := by simp
      go_wp2_with fail
      refine wp_region_quiet_lit (by kernel_rfl) (by kernel_rfl) ?_
      repeat (go_big_quiet_step (fail))
      refine wpQuiet_nil ?_
      intro k1 hqk1
      have hmk1 := hm.ofN hqk1
      clear c0 lg fz hqk1
      obtain ⟨c0, lg, fz⟩ := hmk1.name
      go_wp2
      refine bodyPost_ret (v := .tuple #[]) (by simp [results, Try.results12, go_sem]) rfl ?_
      exact ⟨rfl, hmk1.2, j, ps, b, ⟨_, _, _, hmk1.1⟩, .inr ⟨b, rfl, hRb.out⟩⟩
    have hfew := Lib.hid hfw
    clear hfw
    have hbq : decide ((-1 : Int) < 0) = true := rfl
    by_cases hlt : j < s.size
    rotate_left
    · obtain rfl : j = s.size := by omega
      have hq0 : decide ((s.size : Int) < s.size) = false := by simp
      have hst := Lib.hid (hRj.out.trans stp_wx)
      go_wp2_with fail
      refine wp_region_quiet_lit (by kernel_rfl) (by kernel_rfl) ?_
      repeat (go_big_quiet_step (fail))
      refine wpQuiet_nil ?_
      intro k1 hqk1
      have hmk1 := hm.ofN hqk1
      clear c0 lg fz hqk1
      obtain ⟨c0, lg, fz⟩ := hmk1.name
      go_wp2
      refine bodyPost_ret (v := .tuple #[]) (by simp [results, Try.results12, go_sem]) rfl ?_
      exact ⟨rfl, hmk1.2, s.size, ps, -1, ⟨_, _, _, hmk1.1⟩, .inl ⟨rfl, hst.out, Nat.le_refl _, hfew.out⟩⟩
    have hq0 : decide ((j : Int) < s.size) = true := by simp; omega
    have hq1 : (j : Int) < s.size := by omega
    have hq2 : (j : Int) ≤ s.size := by omega
    have hb0 := bt_at s j hlt
    have hb256 := bt_lt s j
    obtain ⟨cc, hcc⟩ : ∃ cc, bt s j = cc := ⟨_, rfl⟩
    rw [hcc] at hb0 hb256
    have HC := Lib.hid hcc
    clear hcc
    obtain ⟨O, hO⟩ : ∃ O, opS (s.extract j s.size) = O := ⟨_, rfl⟩
    have HOO := Lib.hid hO
    have HOC := Lib.hid (fun W => HO.out (s.extract j s.size) W)
    rw [hO] at HOC
    clear hO
    go_wp2_with fail
    refine wp_region_quiet_lit (by kernel_rfl) (by kernel_rfl) ?_
    repeat (go_big_quiet_step (fail))
    refine wpQuiet_nil ?_
    intro k1 hqk1
    have hmk1 := hm.ofN hqk1
    clear c0 lg fz hqk1
    obtain ⟨c0, lg, fz⟩ := hmk1.name
    go_wp2_with fail
    refine wp_region_quiet_lit (by kernel_rfl) (by kernel_rfl) ?_
    repeat (go_big_quiet_step (fail))
    refine wpQuiet_nil ?_
    intro k2 hqk2
    have hmk2 := hmk1.ofN hqk2
    clear c0 lg fz hqk2
    obtain ⟨c0, lg, fz⟩ := hmk2.name
    by_cases d0 : cc = 32
    · subst d0
      have hst := Lib.hid (hRj.out.trans (stp_wo hlt (.inl HC.out)))
      go_wp2_with fail
      refine wp_region_quiet_lit (by kernel_rfl) (by kernel_rfl) ?_
      repeat (go_big_quiet_step (fail))
      refine wpQuiet_nil ?_
      intro k3 hqk3
      have hmk3 := hmk2.ofN hqk3
      clear c0 lg fz hqk3
      obtain ⟨c0, lg, fz⟩ := hmk3.name
      go_wp2
      refine bodyPost_ret (v := .tuple #[]) (by simp [results, Try.results12, go_sem]) rfl ?_
      exact ⟨rfl, hmk3.2, j, ps, -1, ⟨_, _, _, hmk3.1⟩, .inl ⟨rfl, hst.out, hj2, hfew.out⟩⟩
    have q32 : ((cc : Int) == 32) = false := by simp; omega
    by_cases dO : O.size = 0
    rotate_left
    · have hst := Lib.hid (hRj.out.trans (stp_wo hlt (.inr (by rw [HOO.out]; exact dO))))
      have hOe := bytes_some dO
      go_wp2_with fail
      refine wp_region_quiet_lit (by kernel_rfl) (by kernel_rfl) ?_
      repeat (go_big_quiet_step (first | (go_at_call 11; exact Calls.quiet_of_same (HOC.out _))))
      refine wpQuiet_nil ?_
      intro k3 hqk3
      have hmk3 := hmk2.ofN hqk3
      clear c0 lg fz hqk3
      obtain ⟨c0, lg, fz⟩ := hmk3.name
      go_wp2
      refine bodyPost_ret (v := .tuple #[]) (by simp [results, Try.results12, go_sem]) rfl ?_
      exact ⟨rfl, hmk3.2, j, ps, -1, ⟨_, _, _, hmk3.1⟩, .inl ⟨rfl, hst.out, hj2, hfew.out⟩⟩
    have hOe := bytes_none dO
    have hno := Lib.hid (show ¬ (bt s j = 32 ∨ (opS (s.extract j s.size)).size ≠ 0) from fun h => by rw [HC.out, HOO.out] at h; omega)
    go_wp2_with fail
    refine wp_region_quiet_lit (by kernel_rfl) (by kernel_rfl) ?_
    repeat (go_big_quiet_step (first | (go_at_call 11; exact Calls.quiet_of_same (HOC.out _))))
    refine wpQuiet_nil ?_
    intro k3 hqk3
    have hmk3 := hmk2.ofN hqk3
    clear c0 lg fz hqk3
    obtain ⟨c0, lg, fz⟩ := hmk3.name
    by_cases d1 : cc = 39
    · subst d1
      have hfs := sgl_few (s := s) hfew.out
      obtain ⟨r, hr⟩ : ∃ r, sgl s j ps = r := ⟨_, rfl⟩
      have hst := Lib.hid (hRj.out.trans (stp_ws hlt hno.out HC.out))
      rw [hr] at hfs hst
      go_wp2_with fail
      refine (single_any B g s j A n c ps _ hmk3.1 hlt hs (hfew.out.more (by omega))).mono ?_
      rw [hr]
      rintro e w3 ⟨rfl, hf3, hr3⟩
      go_wp2
      cases r with
      | inl b =>
        obtain ⟨k3', ps3, A3, n3, c3, hr3⟩ := hr3
        go_roundw
        case rel => exact ⟨k3', ps3, _, _, _, _, ⟨hr3, hmk3.2.trans hf3⟩, .inr ⟨b, rfl, Lib.hid hst.out⟩⟩
        case measure =>
          simp only [mea, badOf_at hr3, badOf_at hm.1]
          rw [if_neg (by omega), if_pos (by omega)]
          exact mea_lt s _ _
      | inr p =>
        obtain ⟨k3', ps3⟩ := p
        obtain ⟨A3, n3, c3, hr3⟩ := hr3
        obtain ⟨g1, g2, g3⟩ := hfs
        go_roundw
        case rel => exact ⟨k3', ps3, _, _, _, _, ⟨hr3, hmk3.2.trans hf3⟩, .inl ⟨rfl, Lib.hid hst.out, g2, g3⟩⟩
        case measure =>
          simp only [mea, posOf_at hr3, posOf_at hm.1, badOf_at hr3, badOf_at hm.1]
          omega
    have q39 : ((cc : Int) == 39) = false := by simp; omega
    by_cases d2 : cc = 34
    · subst d2
      have hst := Lib.hid (hRj.out.trans (stp_wq hlt hno.out HC.out))
      go_wp2_with fail
      refine (double_any B g s j A n c ps _ hmk3.1 hlt hs hfew.out).mono ?_
      rw [← hst.out]
      rintro e w3 ⟨r, ⟨rfl, hf3, hr3⟩, hr⟩
      go_wp2
      cases r with
      | inl b =>
        obtain ⟨k3', ps3, A3, n3, c3, hr3⟩ := hr3
        obtain ⟨rfl, hr⟩ := hr
        go_roundw
        case rel => exact ⟨k3', ps3, _, _, _, _, ⟨hr3, hmk3.2.trans hf3⟩, .inr ⟨b, rfl, Lib.hid hr⟩⟩
        case measure =>
          simp only [mea, badOf_at hr3, badOf_at hm.1]
          rw [if_neg (by omega), if_pos (by omega)]
          exact mea_lt s _ _
      | inr p =>
        obtain ⟨k3', ps3⟩ := p
        obtain ⟨A3, n3, c3, hr3⟩ := hr3
        obtain ⟨hr, g1, g2, g3⟩ := hr
        go_roundw
        case rel => exact ⟨k3', ps3, _, _, _, _, ⟨hr3, hmk3.2.trans hf3⟩, .inl ⟨rfl, Lib.hid hr, g2, g3⟩⟩
        case measure =>
          simp only [mea, posOf_at hr3, posOf_at hm.1, badOf_at hr3, badOf_at hm.1]
          omega
    have q34 : ((cc : Int) == 34) = false := by simp; omega
    by_cases d3 : cc = 36
    · subst d3
      have hst := Lib.hid (hRj.out.trans (stp_wv hlt hno.out HC.out))
      go_wp2_with fail
      refine (variable_any B g s j (-1) A n c ps false _ hmk3.1 hlt hs (hfew.out.more (by omega))).mono ?_
      intro e w3 h3
      obtain ⟨A3, n3, c3, rfl, hm3⟩ := hmk3.rdPost h3
      clear h3
      go_wp2
      have hvk := varK_le s j hlt
      go_roundw
      case rel => exact ⟨varK s j, _, _, _, _, _, hm3, .inl ⟨rfl, hst, by omega, few_var hfew.out false⟩⟩
      case measure =>
        simp only [mea, posOf_at hm3.1, posOf_at hm.1, badOf_at hm3.1, badOf_at hm.1]
        omega
    have q36 : ((cc : Int) == 36) = false := by simp; omega
    by_cases d4 : cc = 92
    · subst d4
      by_cases hl1 : j + 1 = s.size
      · have hst := Lib.hid (hRj.out.trans (stp_wb hno.out HC.out hl1))
        have hq3 : ((j : Int) + 1 == s.size) = true := by simp; omega
        go_wp2_with fail
        refine wp_region_quiet_lit (by kernel_rfl) (by kernel_rfl) ?_
        repeat (go_big_quiet_step (fail))
        refine wpQuiet_nil ?_
        intro k4 hqk4
        have hmk4 := hmk3.ofN hqk4
        clear c0 lg fz hqk4
        obtain ⟨c0, lg, fz⟩ := hmk4.name
        go_wp2
        have hx := hmk4.setBad j
        go_roundw
        case rel => exact ⟨j, ps, _, _, _, _, hx, .inr ⟨j, rfl, hst⟩⟩
        case measure =>
          simp only [mea, badOf_at hx.1, badOf_at hm.1]
          rw [if_neg (by omega), if_pos (by omega)]
          exact mea_lt s _ _
      · have hst := Lib.hid (hRj.out.trans (stp_we hlt hno.out HC.out hl1))
        have hq3 : ((j : Int) + 1 == s.size) = false := by simp; omega
        go_wp2_with fail
        refine wp_region_quiet_lit (by kernel_rfl) (by kernel_rfl) ?_
        repeat (go_big_quiet_step (fail))
        refine wpQuiet_nil ?_
        intro k4 hqk4
        have hmk4 := hmk3.ofN hqk4
        clear c0 lg fz hqk4
        obtain ⟨c0, lg, fz⟩ := hmk4.name
        go_wp2_with fail
        have hw1 : IntKind.i64.wrap ((j : Int) + 1) = (j : Int) + 1 := IntWalk.i64_in _ (by omega)
        have hw2 : IntKind.i64.wrap ((j : Int) + 2) = (j : Int) + 2 := IntWalk.i64_in _ (by omega)
        have hw3 : (j : Int) + 1 ≤ (j : Int) + 2 := by omega
        have hj0 : (0 : Int) ≤ (j : Int) + 1 := by omega
        have hw4 : (j : Int) + 2 ≤ s.size := by omega
        refine wp_region_tail 16 (VMid w B g s j (-1) A n c ps) (by kernel_rfl) (by kernel_rfl) hmk4.drew ?_
        clear c0 lg fz
        intro w2 hm2
        obtain ⟨c0, lg, fz⟩ := hm2.name
        simp only [List.take_succ_cons, List.take_zero, List.drop_succ_cons, List.drop_zero]
        repeat still_step
        refine wpStill_nil ?_
        go_wp2_with fail
        refine (add_any B g s j (-1) A n c ps (s.extract (j + 1) (j + 2)) true w2 hm2.1 (hfew.out.more (by omega)) (by simp; omega)).mono ?_
        intro e w3 h3
        obtain ⟨A3, n3, c3, rfl, hm3⟩ := hm2.rdPost h3
        clear c0 lg fz h3
        obtain ⟨c0, lg, fz⟩ := hm3.name
        go_wp2
        have hx := hm3.setAt (j + 2)
        rw [show ((j + 2 : Nat) : Int) = (j : Int) + 2 by omega] at hx
        go_roundw
        case rel => exact ⟨j + 2, _, _, _, _, _, hx, .inl ⟨rfl, hst, by omega, hfew.out.add _ _ (by simp; omega) (by omega)⟩⟩
        case measure =>
          have m1 := posOf_at hx.1
          have m2 := posOf_at hm.1
          simp only [mea, m1, m2, badOf_at hx.1, badOf_at hm.1]
          omega
    have q92 : ((cc : Int) == 92) = false := by simp; omega
    have hst := Lib.hid (hRj.out.trans (stp_wd hlt hno.out (by rw [HC.out]; exact d1) (by rw [HC.out]; exact d2) (by rw [HC.out]; exact d3) (by rw [HC.out]; exact d4)))
    go_wp2_with fail
    refine wp_region_quiet_lit (by kernel_rfl) (by kernel_rfl) ?_
    repeat (go_big_quiet_step (fail))
    refine wpQuiet_nil ?_
    intro k4 hqk4
    have hmk4 := hmk3.ofN hqk4
    clear c0 lg fz hqk4
    obtain ⟨c0, lg, fz⟩ := hmk4.name
    go_wp2_with fail
    have hw1 : IntKind.i64.wrap ((j : Int) + 1) = (j : Int) + 1 := IntWalk.i64_in _ (by omega)
    have hw3 : (j : Int) ≤ (j : Int) + 1 := by omega
    have hw4 : (j : Int) + 1 ≤ s.size := by omega
    refine wp_region_tail 15 (VMid w B g s j (-1) A n c ps) (by kernel_rfl) (by kernel_rfl) hmk4.drew ?_
    clear c0 lg fz
    intro w2 hm2
    obtain ⟨c0, lg, fz⟩ := hm2.name
    simp only [List.take_succ_cons, List.take_zero, List.drop_succ_cons, List.drop_zero]
    repeat still_step
    refine wpStill_nil ?_
    go_wp2_with fail
    refine (add_any B g s j (-1) A n c ps (s.extract j (j + 1)) false w2 hm2.1 (hfew.out.more (by omega)) (by simp; omega)).mono ?_
    intro e w3 h3
    obtain ⟨A3, n3, c3, rfl, hm3⟩ := hm2.rdPost h3
    clear c0 lg fz h3
    obtain ⟨c0, lg, fz⟩ := hm3.name
    go_wp2
    have hx := hm3.setAt (j + 1)
    rw [show ((j + 1 : Nat) : Int) = (j : Int) + 1 by omega] at hx
    go_roundw
    case rel => exact ⟨j + 1, _, _, _, _, _, hx, .inl ⟨rfl, hst, by omega, hfew.out.add _ _ (by simp; omega) (by omega)⟩⟩
    case measure =>
      have m1 := posOf_at hx.1
      have m2 := posOf_at hm.1
      simp only [mea, m1, m2, badOf_at hx.1, badOf_at hm.1]
      omega
end Go.Proofs.Ytdhepkljidpigaa
