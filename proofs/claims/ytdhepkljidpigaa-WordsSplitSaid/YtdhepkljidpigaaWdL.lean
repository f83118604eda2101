/- (*words.reader).double (printed by mkWdL.py). -/
import Derived.Test.YtdhepkljidpigaaWdK
namespace Go.Proofs.Ytdhepkljidpigaa
open Go.RowKit
set_option maxHeartbeats 400000
set_option linter.unusedVariables false
set_option linter.unusedSimpArgs false
/-- The place that a reader holds. -/
noncomputable def posOf (w : World) (g : Nat) : Nat := match w.cell? ⟨g, 1, none⟩ with | some (.int _ n) => n.toNat | _ => 0
theorem posOf_at {w : World} {B g : Nat} {s : ByteArray} {k : Nat} {bad : Int} {A : Option Addr} {n c : Nat} {ps : List Pt} (h : RdSt w B g s k bad A n c ps) : posOf w g = k := by
  have h1 := h.blk.cell 1
  unfold posOf
  rw [h1]
  rfl
theorem few_var {s : ByteArray} {k : Nat} {ps : List Pt} (h : Few k ps) (q : Bool) : Few (varK s k) (varP s k ps q) := by
  unfold varK varP
  split
  · rename_i h0
    rw [h0]
    exact h.add _ _ (by decide) (by decide)
  · rw [Nat.add_assoc]
    exact h.snoc _ (by simp; omega) (by omega)
/-- What stands at the head of double's loop. -/
def DMid (w : World) (B g : Nat) (s : ByteArray) (b : Nat) (R : WRes) (wr : World) : Prop :=
  ∃ j ps A n c, VMid w B g s j (-1) A n c ps wr ∧ Hid (R = wd s ⟨j, some b, ps⟩) ∧ b + 1 ≤ j ∧ j ≤ s.size ∧ Few j ps
def DPost (B g : Nat) (s : ByteArray) (k : Nat) (R : WRes) (w : World) (e : Ending) (w' : World) : Prop :=
  ∃ r, ROut B g s w r e w' ∧ match r with
  | .inl b => b = k ∧ R = .error k
  | .inr (k', ps') => R = wd s ⟨k', none, ps'⟩ ∧ k < k' ∧ k' ≤ s.size ∧ Few k' ps'
theorem VMid.ofN {w : World} {B g : Nat} {s : ByteArray} {k : Nat} {bad : Int} {A : Option Addr} {n c : Nat} {ps : List Pt} {wx w' : World} (h : VMid w B g s k bad A n c ps wx) (hw : ∃ n, w' = wx.drewN n) : VMid w B g s k bad A n c ps w' := by
  obtain ⟨j, rfl⟩ := hw
  exact h.drewN j
theorem VMid.rdPost {w W w3 : World} {B g : Nat} {s : ByteArray} {k k' : Nat} {bad : Int} {A : Option Addr} {n c : Nat} {ps ps' : List Pt} {e : Ending} (h : VMid w B g s k bad A n c ps W) (h3 : RdPost B g s k' bad ps' W e w3) : ∃ A' n' c', e = .returned (.tuple #[]) ∧ VMid w B g s k' bad A' n' c' ps' w3 := by
  obtain ⟨rfl, ⟨A', n', c', h1⟩, h2⟩ := h3
  exact ⟨A', n', c', rfl, h1, h.2.trans h2⟩
/-- One step of double's loop, by what stands there. -/
theorem stp_dq {s : ByteArray} {b j : Nat} {ps : List Pt} (h : j < s.size) (hc : bt s j = 34) : wd s ⟨j, some b, ps⟩ = wd s ⟨j + 1, none, if j = b + 1 then addP ps ByteArray.empty true else ps⟩ :=
  wd_inr (by unfold stp; dsimp only; rw [if_neg (show ¬ s.size ≤ j by omega), if_pos hc]) h (by dsimp only; omega)
theorem stp_dv {s : ByteArray} {b j : Nat} {ps : List Pt} (h : j < s.size) (hc : bt s j = 36) : wd s ⟨j, some b, ps⟩ = wd s ⟨varK s j, some b, varP s j ps true⟩ :=
  wd_inr (by unfold stp; dsimp only; rw [if_neg (show ¬ s.size ≤ j by omega), if_neg (by omega), if_pos hc]) h (varK_le s j h).1
theorem stp_de {s : ByteArray} {b j : Nat} {ps : List Pt} (h : j < s.size) (hc : bt s j = 92) (h1 : j + 1 < s.size) (he : escB (bt s (j + 1)) = true) : wd s ⟨j, some b, ps⟩ = wd s ⟨j + 2, some b, addP ps (s.extract (j + 1) (j + 2)) true⟩ :=
  wd_inr (by unfold stp; dsimp only; rw [if_neg (show ¬ s.size ≤ j by omega), if_neg (by omega), if_neg (by omega), if_pos ⟨hc, h1, he⟩]) h (by dsimp only; omega)
theorem stp_dd {s : ByteArray} {b j : Nat} {ps : List Pt} (h : j < s.size) (h1 : bt s j ≠ 34) (h2 : bt s j ≠ 36) (h3 : ¬ (bt s j = 92 ∧ j + 1 < s.size ∧ escB (bt s (j + 1)) = true)) : wd s ⟨j, some b, ps⟩ = wd s ⟨j + 1, some b, addP ps (s.extract j (j + 1)) true⟩ :=
  wd_inr (by unfold stp; dsimp only; rw [if_neg (show ¬ s.size ≤ j by omega), if_neg h1, if_neg h2, if_neg h3]) h (by dsimp only; omega)
theorem stp_dx {s : ByteArray} {b : Nat} {ps : List Pt} : wd s ⟨s.size, some b, ps⟩ = .error b :=
  wd_inl (by unfold stp; dsimp only; rw [if_pos (Nat.le_refl _)])
theorem escB_index (c : Nat) (h : c < 256) : (decide (0 ≤ Lib.indexByte [34, 92, 36] ((c : Int).toNat.toUInt8))) = escB c := by
  unfold escB
  rw [Int.toNat_natCast]
  simp only [Lib.indexByte]
  by_cases h1 : c = 34
  · subst h1; rfl
  by_cases h2 : c = 92
  · subst h2; rfl
  by_cases h3 : c = 36
  · subst h3; rfl
  have key : ∀ d : Nat, d < 256 → c ≠ d → ((Nat.toUInt8 d == Nat.toUInt8 c) = false) := by
    intro d hd hne
    rw [beq_eq_false_iff_ne]
    intro e
    have := congrArg UInt8.toNat e
    simp at this
    omega
  have k1 := key 34 (by decide) h1
  have k2 := key 92 (by decide) h2
  have k3 := key 36 (by decide) h3
  have l1 : ((34 : UInt8) == c.toUInt8) = false := k1
  have l2 : ((92 : UInt8) == c.toUInt8) = false := k2
  have l3 : ((36 : UInt8) == c.toUInt8) = false := k3
  simp [l1, l2, l3, h1, h2, h3]
set_option maxHeartbeats 2000000 in
set_option maxRecDepth 100000 in
theorem double_any (B g : Nat) (s : ByteArray) (k : Nat) (A : Option Addr) (n c : Nat) (ps : List Pt) (w : World) (h : RdSt w B g s k (-1) A n c ps) (hk : k < s.size) (hs : s.size ≤ 200) (hf : Few k ps) :
    Calls Try.prog 20 #[.pointer (some ⟨g, 0, none⟩)] w (DPost B g s k (wd s ⟨k + 1, some k, ps⟩) w) := by
  have HX := Lib.hid (fun (a : Int) W => indexByte_any ⟨#[34, 92, 36]⟩ a W)
  have HV : Hid (VMid w B g s k (-1) A n c ps w) := Lib.hid ⟨h, FrG.refl B g w⟩
  have HV1 := Lib.hid (HV.out.setAt (k + 1))
  rw [show ((k + 1 : Nat) : Int) = (k : Int) + 1 by omega] at HV1
  obtain ⟨R, hR⟩ : ∃ R, R = wd s ⟨k + 1, some k, ps⟩ := ⟨_, rfl⟩
  rw [← hR]
  have HD : Hid (DMid w B g s k R (w.setCell ⟨g, 1, none⟩ (.int .i64 ((k : Int) + 1)))) := Lib.hid ⟨k + 1, ps, A, n, c, HV1.out, Lib.hid hR, Nat.le_refl _, by omega, hf.more (by omega)⟩
  obtain ⟨c0, lg, fz⟩ := HV.out.name
  clear h hf hR HV1
  go_enter Try.func20, Try.ntmps20
  go_wp2_with fail
  go_loopw [3] (fun _ wr => DMid w B g s k R wr) (fun _ wr => s.size - posOf wr g)
  case atStart => exact HD.out
  case round =>
    clear c0 lg fz HV HD A n c ps
    obtain ⟨j, ps, A, n, c, hm, hRj, hj1, hj2, hfw⟩ := hrel
    have hfew := Lib.hid hfw
    clear hfw
    obtain ⟨c0, lg, fz⟩ := hm.name
    by_cases hlt : j < s.size
    · have hq0 : decide ((j : Int) < s.size) = true := by simp; omega
      have hq1 : (j : Int) < s.size := by omega
      have hb0 := bt_at s j hlt
      have hb256 := bt_lt s j
      obtain ⟨cc, hcc⟩ : ∃ cc, bt s j = cc := ⟨_, rfl⟩
      rw [hcc] at hb0 hb256
      have HC := Lib.hid hcc
      clear hcc
      go_wp2_with fail
      refine wp_region_quiet_lit (by kernel_rfl) (by kernel_rfl) ?_
      repeat (go_big_quiet_step (fail))
      refine wpQuiet_nil ?_
      intro k1 hqk1
      have hmk1 := hm.ofN hqk1
      clear c0 lg fz hqk1
      obtain ⟨c0, lg, fz⟩ := hmk1.name
      go_wp2_with fail
      refine wp_region_quiet_lit (by kernel_rfl) (by kernel_rfl) ?_
      repeat (go_big_quiet_step (fail))
      refine wpQuiet_nil ?_
      intro k2 hqk2
      have hmk2 := hmk1.ofN hqk2
      clear c0 lg fz hqk2
      obtain ⟨c0, lg, fz⟩ := hmk2.name
      by_cases d1 : cc = 34
      · subst d1
        have hst := Lib.hid (hRj.out.trans (stp_dq hlt HC.out))
        by_cases e1 : j = k + 1
        · rw [if_pos e1] at hst
          subst e1
          go_wp2_with fail
          refine (add_any B g s (k + 1) (-1) A n c ps ⟨#[]⟩ true _ hmk2.1 (hfew.out.more (by omega)) (by decide)).mono ?_
          intro e w3 h3
          obtain ⟨A3, n3, c3, rfl, hm3⟩ := VMid.rdPost hmk2 h3
          clear c0 lg fz h3
          obtain ⟨c0, lg, fz⟩ := hm3.name
          go_wp2
          refine bodyPost_ret (v := .tuple #[]) (by simp [results, Try.results20, go_sem]) rfl ?_
          have hx := hm3.setAt (k + 1 + 1)
          rw [show ((k + 1 + 1 : Nat) : Int) = (k : Int) + 1 + 1 by omega] at hx
          exact ⟨.inr (k + 1 + 1, _), ⟨rfl, hx.2, _, _, _, hx.1⟩, hst.out, by omega, by omega, hfew.out.add _ _ (by decide) (by decide)⟩
        · have hbq : ((j : Int) == (k : Int) + 1) = false := by simp; omega
          rw [if_neg e1] at hst
          go_wp2_with fail
          refine bodyPost_ret (v := .tuple #[]) (by simp [results, Try.results20, go_sem]) rfl ?_
          have hx := hmk2.setAt (j + 1)
          rw [show ((j + 1 : Nat) : Int) = (j : Int) + 1 by omega] at hx
          exact ⟨.inr (j + 1, _), ⟨rfl, hx.2, _, _, _, hx.1⟩, hst.out, by omega, by omega, hfew.out.more (by omega)⟩
      have q34 : ((cc : Int) == 34) = false := by simp; omega
      by_cases d2 : cc = 36
      · subst d2
        have hst := Lib.hid (hRj.out.trans (stp_dv hlt HC.out))
        go_wp2_with fail
        refine (variable_any B g s j (-1) A n c ps true _ hmk2.1 hlt hs (hfew.out.more (by omega))).mono ?_
        intro e w3 h3
        obtain ⟨A3, n3, c3, rfl, hm3⟩ := VMid.rdPost hmk2 h3
        clear h3
        go_wp2
        have hvk := varK_le s j hlt
        go_roundw
        case rel => exact ⟨varK s j, _, _, _, _, hm3, hst, by omega, by omega, few_var hfew.out true⟩
        case measure =>
          have m1 := posOf_at hm3.1
          have m2 := posOf_at hm.1
          simp only [m1, m2]
          omega
      have q36 : ((cc : Int) == 36) = false := by simp; omega
      by_cases d3 : cc = 92
      · subst d3
        have qn : (((92 : Nat) : Int) == 92) = true := rfl
        by_cases hl1 : j + 1 < s.size
        · have hq2 : decide ((j : Int) + 1 < s.size) = true := by simp; omega
          have hq3 : (j : Int) + 1 < s.size := by omega
          have hb1 := bt_at s (j + 1) hl1
          obtain ⟨c1, hc1⟩ : ∃ c1, bt s (j + 1) = c1 := ⟨_, rfl⟩
          have hc256 := bt_lt s (j + 1)
          rw [hc1] at hb1 hc256
          have hesc := escB_index c1 hc256
          have HXC := Lib.hid (fun W => HX.out (c1 : Int) W)
          have hj0 : (0 : Int) ≤ (j : Int) + 1 := by omega
          obtain ⟨Q, hQ⟩ : ∃ Q, Lib.indexByte [34, 92, 36] ((c1 : Int).toNat.toUInt8) = Q := ⟨_, rfl⟩
          have hQ' : Lib.indexByte (⟨#[34, 92, 36]⟩ : ByteArray).data.toList ((c1 : Int).toNat.toUInt8) = Q := hQ
          rw [hQ'] at HXC
          rw [hQ] at hesc
          clear hQ hQ'
          cases he : escB c1 with
          | true =>
            rw [he] at hesc
            have hst := Lib.hid (hRj.out.trans (stp_de hlt HC.out hl1 (by rw [hc1]; exact he)))
            have hstep := hst
            clear he hc1
            go_wp2_with fail
            refine wp_region_quiet_lit (by kernel_rfl) (by kernel_rfl) ?_
            repeat (go_big_quiet_step (first | (go_at_call 28; exact Calls.quiet_of_same (HXC.out _))))
            refine wpQuiet_nil ?_
            intro k3 hqk3
            have hmk3 := hmk2.ofN hqk3
            clear c0 lg fz hqk3
            obtain ⟨c0, lg, fz⟩ := hmk3.name
            go_wp2_with fail
            have HM3 := Lib.hid hmk3
            clear c0 lg fz
            have hw1 : IntKind.i64.wrap ((j : Int) + 1) = (j : Int) + 1 := IntWalk.i64_in _ (by omega)
            have hw2 : IntKind.i64.wrap ((j : Int) + 2) = (j : Int) + 2 := IntWalk.i64_in _ (by omega)
            have hw3 : (j : Int) + 1 ≤ (j : Int) + 2 := by omega
            have hw4 : (j : Int) + 2 ≤ s.size := by omega
            refine wp_region_tail 16 (VMid w B g s j (-1) A n c ps) (by kernel_rfl) (by kernel_rfl) (by first | exact HM3.out.drew | exact (hmk2.drewN k3).drew) ?_
            intro w2 hm2
            obtain ⟨c0, lg, fz⟩ := hm2.name
            simp only [List.take_succ_cons, List.take_zero, List.drop_succ_cons, List.drop_zero]
            repeat still_step
            refine wpStill_nil ?_
            go_wp2_with fail
            refine (add_any B g s j (-1) A n c ps (s.extract (j + 1) (j + 2)) true w2 hm2.1 (hfew.out.more (by omega)) (by simp; omega)).mono ?_
            intro e w3 h3
            obtain ⟨A3, n3, c3, rfl, hm3⟩ := hm2.rdPost h3
            clear c0 lg fz h3
            obtain ⟨c0, lg, fz⟩ := hm3.name
            go_wp2
            have hx := hm3.setAt (j + 2)
            rw [show ((j + 2 : Nat) : Int) = (j : Int) + 2 by omega] at hx
            go_roundw
            case rel => exact ⟨j + 2, _, _, _, _, hx, hstep, by omega, by omega, hfew.out.add _ _ (by simp; omega) (by omega)⟩
            case measure =>
              have m1 := posOf_at hx.1
              have m2 := posOf_at hm.1
              simp only [m1, m2]
              omega
          | false =>
            rw [he] at hesc
            have hst := Lib.hid (hRj.out.trans (stp_dd hlt (by rw [HC.out]; decide) (by rw [HC.out]; decide) (by rw [hc1, he]; simp)))
            have hstep := hst
            clear he hc1
            go_wp2_with fail
            refine wp_region_quiet_lit (by kernel_rfl) (by kernel_rfl) ?_
            repeat (go_big_quiet_step (first | (go_at_call 28; exact Calls.quiet_of_same (HXC.out _))))
            refine wpQuiet_nil ?_
            intro k3 hqk3
            have hmk3 := hmk2.ofN hqk3
            clear c0 lg fz hqk3
            obtain ⟨c0, lg, fz⟩ := hmk3.name
            go_wp2_with fail
            have HM3 := Lib.hid hmk3
            clear c0 lg fz
            have hw1 : IntKind.i64.wrap ((j : Int) + 1) = (j : Int) + 1 := IntWalk.i64_in _ (by omega)
            have hw3 : (j : Int) ≤ (j : Int) + 1 := by omega
            have hw4 : (j : Int) + 1 ≤ s.size := by omega
            refine wp_region_tail 15 (VMid w B g s j (-1) A n c ps) (by kernel_rfl) (by kernel_rfl) (by first | exact HM3.out.drew | exact (hmk2.drewN k3).drew) ?_
            intro w2 hm2
            obtain ⟨c0, lg, fz⟩ := hm2.name
            simp only [List.take_succ_cons, List.take_zero, List.drop_succ_cons, List.drop_zero]
            repeat still_step
            refine wpStill_nil ?_
            go_wp2_with fail
            refine (add_any B g s j (-1) A n c ps (s.extract j (j + 1)) true w2 hm2.1 (hfew.out.more (by omega)) (by simp; omega)).mono ?_
            intro e w3 h3
            obtain ⟨A3, n3, c3, rfl, hm3⟩ := hm2.rdPost h3
            clear c0 lg fz h3
            obtain ⟨c0, lg, fz⟩ := hm3.name
            go_wp2
            have hx := hm3.setAt (j + 1)
            rw [show ((j + 1 : Nat) : Int) = (j : Int) + 1 by omega] at hx
            go_roundw
            case rel => exact ⟨j + 1, _, _, _, _, hx, hstep, by omega, by omega, hfew.out.add _ _ (by simp; omega) (by omega)⟩
            case measure =>
              have m1 := posOf_at hx.1
              have m2 := posOf_at hm.1
              simp only [m1, m2]
              omega
        · have hq2 : decide ((j : Int) + 1 < s.size) = false := by simp; omega
          have hst := Lib.hid (hRj.out.trans (stp_dd hlt (by rw [HC.out]; decide) (by rw [HC.out]; decide) (fun h => hl1 h.2.1)))
          have hstep := hst
          go_wp2_with fail
          refine wp_region_quiet_lit (by kernel_rfl) (by kernel_rfl) ?_
          repeat (go_big_quiet_step (fail))
          refine wpQuiet_nil ?_
          intro k3 hqk3
          have hmk3 := hmk2.ofN hqk3
          clear c0 lg fz hqk3
          obtain ⟨c0, lg, fz⟩ := hmk3.name
          go_wp2_with fail
          have HM3 := Lib.hid hmk3
          clear c0 lg fz
          have hw1 : IntKind.i64.wrap ((j : Int) + 1) = (j : Int) + 1 := IntWalk.i64_in _ (by omega)
          have hw3 : (j : Int) ≤ (j : Int) + 1 := by omega
          have hw4 : (j : Int) + 1 ≤ s.size := by omega
          refine wp_region_tail 15 (VMid w B g s j (-1) A n c ps) (by kernel_rfl) (by kernel_rfl) (by first | exact HM3.out.drew | exact (hmk2.drewN k3).drew) ?_
          intro w2 hm2
          obtain ⟨c0, lg, fz⟩ := hm2.name
          simp only [List.take_succ_cons, List.take_zero, List.drop_succ_cons, List.drop_zero]
          repeat still_step
          refine wpStill_nil ?_
          go_wp2_with fail
          refine (add_any B g s j (-1) A n c ps (s.extract j (j + 1)) true w2 hm2.1 (hfew.out.more (by omega)) (by simp; omega)).mono ?_
          intro e w3 h3
          obtain ⟨A3, n3, c3, rfl, hm3⟩ := hm2.rdPost h3
          clear c0 lg fz h3
          obtain ⟨c0, lg, fz⟩ := hm3.name
          go_wp2
          have hx := hm3.setAt (j + 1)
          rw [show ((j + 1 : Nat) : Int) = (j : Int) + 1 by omega] at hx
          go_roundw
          case rel => exact ⟨j + 1, _, _, _, _, hx, hstep, by omega, by omega, hfew.out.add _ _ (by simp; omega) (by omega)⟩
          case measure =>
            have m1 := posOf_at hx.1
            have m2 := posOf_at hm.1
            simp only [m1, m2]
            omega
      · have q92 : ((cc : Int) == 92) = false := by simp; omega
        have hst := Lib.hid (hRj.out.trans (stp_dd hlt (by rw [HC.out]; exact d1) (by rw [HC.out]; exact d2) (fun h => d3 (by rw [← HC.out]; exact h.1))))
        have hstep := hst
        go_wp2_with fail
        refine wp_region_quiet_lit (by kernel_rfl) (by kernel_rfl) ?_
        repeat (go_big_quiet_step (fail))
        refine wpQuiet_nil ?_
        intro k3 hqk3
        have hmk3 := hmk2.ofN hqk3
        clear c0 lg fz hqk3
        obtain ⟨c0, lg, fz⟩ := hmk3.name
        go_wp2_with fail
        have HM3 := Lib.hid hmk3
        clear c0 lg fz
        have hw1 : IntKind.i64.wrap ((j : Int) + 1) = (j : Int) + 1 := IntWalk.i64_in _ (by omega)
        have hw3 : (j : Int) ≤ (j : Int) + 1 := by omega
        have hw4 : (j : Int) + 1 ≤ s.size := by omega
        refine wp_region_tail 15 (VMid w B g s j (-1) A n c ps) (by kernel_rfl) (by kernel_rfl) (by first | exact HM3.out.drew | exact (hmk2.drewN k3).drew) ?_
        intro w2 hm2
        obtain ⟨c0, lg, fz⟩ := hm2.name
        simp only [List.take_succ_cons, List.take_zero, List.drop_succ_cons, List.drop_zero]
        repeat still_step
        refine wpStill_nil ?_
        go_wp2_with fail
        refine (add_any B g s j (-1) A n c ps (s.extract j (j + 1)) true w2 hm2.1 (hfew.out.more (by omega)) (by simp; omega)).mono ?_
        intro e w3 h3
        obtain ⟨A3, n3, c3, rfl, hm3⟩ := hm2.rdPost h3
        clear c0 lg fz h3
        obtain ⟨c0, lg, fz⟩ := hm3.name
        go_wp2
        have hx := hm3.setAt (j + 1)
        rw [show ((j + 1 : Nat) : Int) = (j : Int) + 1 by omega] at hx
        go_roundw
        case rel => exact ⟨j + 1, _, _, _, _, hx, hstep, by omega, by omega, hfew.out.add _ _ (by simp; omega) (by omega)⟩
        case measure =>
          have m1 := posOf_at hx.1
          have m2 := posOf_at hm.1
          simp only [m1, m2]
          omega
    · obtain rfl : j = s.size := by omega
      have hq0 : decide ((s.size : Int) < s.size) = false := by simp
      have hst := Lib.hid (hRj.out.trans stp_dx)
      go_wp2_with fail
      refine wp_region_quiet_lit (by kernel_rfl) (by kernel_rfl) ?_
      repeat (go_big_quiet_step (fail))
      refine wpQuiet_nil ?_
      intro k1 hqk1
      have hmk1 := hm.ofN hqk1
      clear c0 lg fz hqk1
      obtain ⟨c0, lg, fz⟩ := hmk1.name
      go_wp2
      refine bodyPost_ret (v := .tuple #[]) (by simp [results, Try.results20, go_sem]) rfl ?_
      have hx := hmk1.setBad k
      exact ⟨.inl k, ⟨rfl, hx.2, _, _, _, _, _, hx.1⟩, rfl, hst.out⟩
end Go.Proofs.Ytdhepkljidpigaa
