/- Contracts of the maker's step, slices.Index at bools, least. -/
import Derived.Test.YtjeclmkdojnflaaPlB
import Derived.Test.YtjeclmkdojnflaaOwnC
namespace Go.Proofs.Ytjeclmkdojnflaa
open Go.RowKit
set_option maxHeartbeats 400000
set_option linter.unusedVariables false
set_option linter.unusedSimpArgs false
def RetG (W : World) (B g p : Nat) (v : Value) (who : Int) (q : Pst) (e : Ending) (w' : World) : Prop := e = .returned (.tuple #[]) ∧ MGo W B g p v who q w'
theorem stp_one (x : Stp) : ∀ u ∈ x.cells, u.oneCell' = true := by
  intro u hu
  simp only [Stp.cells, List.mem_cons, List.not_mem_nil, or_false] at hu
  rcases hu with rfl | rfl | rfl | rfl | rfl | rfl | rfl | rfl <;> rfl
theorem blk_reads (w : World) (t : TypeId) (s m : Nat) (xs : List Value) (hl : xs.length = m * s) : Reads (w.alloc (.cells xs.toArray t)) (w.heap.size + 1) s (some ⟨w.heap.size, 0, none⟩) m xs := by
  refine ⟨hl, fun _ => ⟨w.heap.size, 0, rfl, by omega, fun j u hu => ?_⟩⟩
  rw [(Blk.new w xs.toArray t).cell]
  simpa using hu
set_option maxHeartbeats 4000000 in
set_option maxRecDepth 100000 in
theorem step_any (W : World) (B g p : Nat) (v : Value) (who : Int) (q : Pst) (num a b c : Int) (s : ByteArray) (h : Mk W B g p v who q) (hl : q.2.length ≤ 10000) :
    Calls Try.prog 15 #[.pointer (some ⟨g, 0, none⟩), .agg #[.int .i64 num, .int .i64 a, .int .i64 b, .int .i64 c, .string s, .string ByteArray.empty, .slice none 0 0]] W (RetG W B g p v who (q.1, q.2 ++ [⟨who, num, a, b, c, s⟩])) := by
  obtain ⟨i0, hi, hz0, hz1, hz2⟩ := info_parts infoS
  obtain ⟨x, hx⟩ : ∃ x : Stp, x = ⟨who, num, a, b, c, s⟩ := ⟨_, rfl⟩
  have HX := Lib.hid hx
  have HXC : Hid (x.cells = [.int .i64 who, .int .i64 num, .int .i64 a, .int .i64 b, .int .i64 c, .string s, .string ByteArray.empty, .slice none 0 0]) := Lib.hid (by rw [hx]; rfl)
  have hb1 : Below W.heap.size W (W.alloc (.cells #[.int .i64 num, .int .i64 a, .int .i64 b, .int .i64 c, .string s, .string ByteArray.empty, .slice none 0 0] 30)) := (Below.refl _ _).alloc (Nat.le_refl _) _
  have H1 := Lib.hid (h.grow hb1)
  have HB1 := Lib.hid hb1
  have H := Lib.hid h
  have HK := Lib.hid (Blk.new W #[.int .i64 num, .int .i64 a, .int .i64 b, .int .i64 c, .string s, .string ByteArray.empty, .slice none 0 0] 30)
  have hc := HK.out.cell
  have hlt := HK.out.lt
  have hc0 := (H1.out.mb.cell 0).trans (show _ = some (.pointer (some ⟨p, 0, none⟩)) from rfl)
  have hc1 := (H1.out.mb.cell 1).trans (show _ = some (.int .i64 who) from rfl)
  have hlg := H1.out.mb.lt
  have hcp := H1.out.sb.cell 0
  have hlp := H1.out.sb.lt
  obtain ⟨A0, c0, rfl, -, -⟩ := H1.out.row.shape
  have hng : ¬ (Value.slice A0 q.2.length c0).ownBlock = some g := row_blk H1.out.row H1.out.mb (by decide)
  have hnp : ¬ (Value.slice A0 q.2.length c0).ownBlock = some p := row_blk H1.out.row H1.out.sb (by decide)
  have hnk : ¬ (Value.slice A0 q.2.length c0).ownBlock = some W.heap.size := row_blk H1.out.row HK.out (by decide)
  have hpk : ¬ p = W.heap.size := fun e => by have := h.sb.lt; omega
  have hB0 := h.low
  clear h hb1 hx
  go_enter Try.func15, Try.ntmps15
  go_wp2_with fail
  generalize W.alloc (.cells #[.int .i64 num, .int .i64 a, .int .i64 b, .int .i64 c, .string s, .string ByteArray.empty, .slice none 0 0] 30) = wS at *
  have HRS := Lib.hid H1.out.row
  have HSB := Lib.hid H1.out.sb
  have HBS : Hid (B ≤ wS.heap.size) := Lib.hid (Nat.le_trans hB0 HB1.out.size)
  have hBS := HBS.out
  have HA := Lib.hid (fun A9 c9 W9 hg9 hr9 ho9 => H.out.app (W1 := W9) (A' := A9) (c' := c9) (x := x) HB1.out hg9 hr9 ho9)
  generalize W.heap.size = kb at *
  have hx0 := hc 0
  have hx1 := hc 1
  have hx2 := hc 2
  have hx3 := hc 3
  have hx4 := hc 4
  have hx5 := hc 5
  have hx6 := hc 6
  dsimp at hx0 hx1 hx2 hx3 hx4 hx5 hx6 hcp
  clear hc
  refine FR.wp_region_walk (AppF B 32 8 wS.heap.size A0 q.2.length c0 (q.2.length + 1) (q.2.flatMap Stp.cells ++ x.cells)) (fun w' => Fr (fun k => (Value.slice A0 q.2.length c0).ownBlock = some k) wS w' ∧ Row w' B 32 8 (.slice A0 q.2.length c0) q.2.length (q.2.flatMap Stp.cells)) [[], [(4, 0)], [(5, 1)], [(6, 2)], [], [(8, 4)], [(9, 5)], [(10, 6)], [(11, 7)], [(12, 8)], [], [(14, 10)], [(15, 11)], [(16, 12)], [], [(17, 13), (18, 14)], [(19, 15)], [(13, 9), (20, 16)], [(7, 3)]]
    [(4, 0), (5, 1), (6, 2), (7, 3), (8, 4), (9, 5), (10, 6), (11, 7), (12, 8), (13, 9), (14, 10), (15, 11), (16, 12), (17, 13), (18, 14), (19, 15), (20, 16), (21, 17), (22, 18)] (by kernel_rfl) (by kernel_rfl) (by kernel_rfl) ⟨(Fr.refl _ _).drew, HRS.out.drew⟩ ?_
  apply FR.Flow.det_step
  · go_light
    intro w1 hC1
    simp only [FR.Flow.fill, FR.Flow.after, FR.Flow.at_, List.nil_append, List.cons_append, List.getD_cons_zero, List.getD_cons_succ, FR.det, forall_eq, List.setIfInBounds_toArray, List.set_cons_zero, List.set_cons_succ, List.drop, List.length]
    obtain ⟨hf, hr⟩ := hC1
    have k0 := (hf.cell (p := ⟨g, 0, none⟩) hlg hng).trans hc0; have k1 := (hf.cell (p := ⟨g, 1, none⟩) hlg hng).trans hc1; have kp := (hf.cell (p := ⟨p, 0, none⟩) hlp hnp).trans hcp; have y0 := (hf.cell (p := ⟨kb, 0, none⟩) hlt hnk).trans hx0; have y1 := (hf.cell (p := ⟨kb, 1, none⟩) hlt hnk).trans hx1; have y2 := (hf.cell (p := ⟨kb, 2, none⟩) hlt hnk).trans hx2; have y3 := (hf.cell (p := ⟨kb, 3, none⟩) hlt hnk).trans hx3; have y4 := (hf.cell (p := ⟨kb, 4, none⟩) hlt hnk).trans hx4; have y5 := (hf.cell (p := ⟨kb, 5, none⟩) hlt hnk).trans hx5; have y6 := (hf.cell (p := ⟨kb, 6, none⟩) hlt hnk).trans hx6; have s1 := hf.size
    go_wp2
    exact FR.Flow.post_det ⟨hf, hr⟩ (AppF.refl _) rfl rfl
  apply FR.Flow.det_step
  · go_light
    intro w1 hC1
    simp only [FR.Flow.fill, FR.Flow.after, FR.Flow.at_, List.nil_append, List.cons_append, List.getD_cons_zero, List.getD_cons_succ, FR.det, forall_eq, List.setIfInBounds_toArray, List.set_cons_zero, List.set_cons_succ, List.drop, List.length]
    obtain ⟨hf, hr⟩ := hC1
    have k0 := (hf.cell (p := ⟨g, 0, none⟩) hlg hng).trans hc0; have k1 := (hf.cell (p := ⟨g, 1, none⟩) hlg hng).trans hc1; have kp := (hf.cell (p := ⟨p, 0, none⟩) hlp hnp).trans hcp; have y0 := (hf.cell (p := ⟨kb, 0, none⟩) hlt hnk).trans hx0; have y1 := (hf.cell (p := ⟨kb, 1, none⟩) hlt hnk).trans hx1; have y2 := (hf.cell (p := ⟨kb, 2, none⟩) hlt hnk).trans hx2; have y3 := (hf.cell (p := ⟨kb, 3, none⟩) hlt hnk).trans hx3; have y4 := (hf.cell (p := ⟨kb, 4, none⟩) hlt hnk).trans hx4; have y5 := (hf.cell (p := ⟨kb, 5, none⟩) hlt hnk).trans hx5; have y6 := (hf.cell (p := ⟨kb, 6, none⟩) hlt hnk).trans hx6; have s1 := hf.size
    go_wp2
    exact FR.Flow.post_det ⟨hf, hr⟩ (AppF.refl _) rfl rfl
  apply FR.Flow.det_step
  · go_light
    intro w1 hC1
    simp only [FR.Flow.fill, FR.Flow.after, FR.Flow.at_, List.nil_append, List.cons_append, List.getD_cons_zero, List.getD_cons_succ, FR.det, forall_eq, List.setIfInBounds_toArray, List.set_cons_zero, List.set_cons_succ, List.drop, List.length]
    obtain ⟨hf, hr⟩ := hC1
    have k0 := (hf.cell (p := ⟨g, 0, none⟩) hlg hng).trans hc0; have k1 := (hf.cell (p := ⟨g, 1, none⟩) hlg hng).trans hc1; have kp := (hf.cell (p := ⟨p, 0, none⟩) hlp hnp).trans hcp; have y0 := (hf.cell (p := ⟨kb, 0, none⟩) hlt hnk).trans hx0; have y1 := (hf.cell (p := ⟨kb, 1, none⟩) hlt hnk).trans hx1; have y2 := (hf.cell (p := ⟨kb, 2, none⟩) hlt hnk).trans hx2; have y3 := (hf.cell (p := ⟨kb, 3, none⟩) hlt hnk).trans hx3; have y4 := (hf.cell (p := ⟨kb, 4, none⟩) hlt hnk).trans hx4; have y5 := (hf.cell (p := ⟨kb, 5, none⟩) hlt hnk).trans hx5; have y6 := (hf.cell (p := ⟨kb, 6, none⟩) hlt hnk).trans hx6; have s1 := hf.size
    go_wp2
    exact FR.Flow.post_det ⟨hf, hr⟩ (AppF.refl _) rfl rfl
  apply FR.Flow.det_step
  · go_light
    intro w1 hC1
    simp only [FR.Flow.fill, FR.Flow.after, FR.Flow.at_, List.nil_append, List.cons_append, List.getD_cons_zero, List.getD_cons_succ, FR.det, forall_eq, List.setIfInBounds_toArray, List.set_cons_zero, List.set_cons_succ, List.drop, List.length]
    obtain ⟨hf, hr⟩ := hC1
    have k0 := (hf.cell (p := ⟨g, 0, none⟩) hlg hng).trans hc0; have k1 := (hf.cell (p := ⟨g, 1, none⟩) hlg hng).trans hc1; have kp := (hf.cell (p := ⟨p, 0, none⟩) hlp hnp).trans hcp; have y0 := (hf.cell (p := ⟨kb, 0, none⟩) hlt hnk).trans hx0; have y1 := (hf.cell (p := ⟨kb, 1, none⟩) hlt hnk).trans hx1; have y2 := (hf.cell (p := ⟨kb, 2, none⟩) hlt hnk).trans hx2; have y3 := (hf.cell (p := ⟨kb, 3, none⟩) hlt hnk).trans hx3; have y4 := (hf.cell (p := ⟨kb, 4, none⟩) hlt hnk).trans hx4; have y5 := (hf.cell (p := ⟨kb, 5, none⟩) hlt hnk).trans hx5; have y6 := (hf.cell (p := ⟨kb, 6, none⟩) hlt hnk).trans hx6; have s1 := hf.size
    go_wp2
    exact FR.Flow.post_det ⟨hf, hr⟩ (AppF.refl _) rfl rfl
  apply FR.Flow.det_step
  · go_light
    intro w1 hC1
    simp only [FR.Flow.fill, FR.Flow.after, FR.Flow.at_, List.nil_append, List.cons_append, List.getD_cons_zero, List.getD_cons_succ, FR.det, forall_eq, List.setIfInBounds_toArray, List.set_cons_zero, List.set_cons_succ, List.drop, List.length]
    obtain ⟨hf, hr⟩ := hC1
    have k0 := (hf.cell (p := ⟨g, 0, none⟩) hlg hng).trans hc0; have k1 := (hf.cell (p := ⟨g, 1, none⟩) hlg hng).trans hc1; have kp := (hf.cell (p := ⟨p, 0, none⟩) hlp hnp).trans hcp; have y0 := (hf.cell (p := ⟨kb, 0, none⟩) hlt hnk).trans hx0; have y1 := (hf.cell (p := ⟨kb, 1, none⟩) hlt hnk).trans hx1; have y2 := (hf.cell (p := ⟨kb, 2, none⟩) hlt hnk).trans hx2; have y3 := (hf.cell (p := ⟨kb, 3, none⟩) hlt hnk).trans hx3; have y4 := (hf.cell (p := ⟨kb, 4, none⟩) hlt hnk).trans hx4; have y5 := (hf.cell (p := ⟨kb, 5, none⟩) hlt hnk).trans hx5; have y6 := (hf.cell (p := ⟨kb, 6, none⟩) hlt hnk).trans hx6; have s1 := hf.size
    go_wp2
    exact FR.Flow.post_det ⟨hf, hr⟩ (AppF.refl _) rfl rfl
  apply FR.Flow.det_step
  · go_light
    intro w1 hC1
    simp only [FR.Flow.fill, FR.Flow.after, FR.Flow.at_, List.nil_append, List.cons_append, List.getD_cons_zero, List.getD_cons_succ, FR.det, forall_eq, List.setIfInBounds_toArray, List.set_cons_zero, List.set_cons_succ, List.drop, List.length]
    obtain ⟨hf, hr⟩ := hC1
    have k0 := (hf.cell (p := ⟨g, 0, none⟩) hlg hng).trans hc0; have k1 := (hf.cell (p := ⟨g, 1, none⟩) hlg hng).trans hc1; have kp := (hf.cell (p := ⟨p, 0, none⟩) hlp hnp).trans hcp; have y0 := (hf.cell (p := ⟨kb, 0, none⟩) hlt hnk).trans hx0; have y1 := (hf.cell (p := ⟨kb, 1, none⟩) hlt hnk).trans hx1; have y2 := (hf.cell (p := ⟨kb, 2, none⟩) hlt hnk).trans hx2; have y3 := (hf.cell (p := ⟨kb, 3, none⟩) hlt hnk).trans hx3; have y4 := (hf.cell (p := ⟨kb, 4, none⟩) hlt hnk).trans hx4; have y5 := (hf.cell (p := ⟨kb, 5, none⟩) hlt hnk).trans hx5; have y6 := (hf.cell (p := ⟨kb, 6, none⟩) hlt hnk).trans hx6; have s1 := hf.size
    go_wp2
    exact FR.Flow.post_det ⟨hf, hr⟩ (AppF.refl _) rfl rfl
  apply FR.Flow.det_step
  · go_light
    intro w1 hC1
    simp only [FR.Flow.fill, FR.Flow.after, FR.Flow.at_, List.nil_append, List.cons_append, List.getD_cons_zero, List.getD_cons_succ, FR.det, forall_eq, List.setIfInBounds_toArray, List.set_cons_zero, List.set_cons_succ, List.drop, List.length]
    obtain ⟨hf, hr⟩ := hC1
    have k0 := (hf.cell (p := ⟨g, 0, none⟩) hlg hng).trans hc0; have k1 := (hf.cell (p := ⟨g, 1, none⟩) hlg hng).trans hc1; have kp := (hf.cell (p := ⟨p, 0, none⟩) hlp hnp).trans hcp; have y0 := (hf.cell (p := ⟨kb, 0, none⟩) hlt hnk).trans hx0; have y1 := (hf.cell (p := ⟨kb, 1, none⟩) hlt hnk).trans hx1; have y2 := (hf.cell (p := ⟨kb, 2, none⟩) hlt hnk).trans hx2; have y3 := (hf.cell (p := ⟨kb, 3, none⟩) hlt hnk).trans hx3; have y4 := (hf.cell (p := ⟨kb, 4, none⟩) hlt hnk).trans hx4; have y5 := (hf.cell (p := ⟨kb, 5, none⟩) hlt hnk).trans hx5; have y6 := (hf.cell (p := ⟨kb, 6, none⟩) hlt hnk).trans hx6; have s1 := hf.size
    go_wp2
    exact FR.Flow.post_det ⟨hf, hr⟩ (AppF.refl _) rfl rfl
  apply FR.Flow.det_step
  · go_light
    intro w1 hC1
    simp only [FR.Flow.fill, FR.Flow.after, FR.Flow.at_, List.nil_append, List.cons_append, List.getD_cons_zero, List.getD_cons_succ, FR.det, forall_eq, List.setIfInBounds_toArray, List.set_cons_zero, List.set_cons_succ, List.drop, List.length]
    obtain ⟨hf, hr⟩ := hC1
    have k0 := (hf.cell (p := ⟨g, 0, none⟩) hlg hng).trans hc0; have k1 := (hf.cell (p := ⟨g, 1, none⟩) hlg hng).trans hc1; have kp := (hf.cell (p := ⟨p, 0, none⟩) hlp hnp).trans hcp; have y0 := (hf.cell (p := ⟨kb, 0, none⟩) hlt hnk).trans hx0; have y1 := (hf.cell (p := ⟨kb, 1, none⟩) hlt hnk).trans hx1; have y2 := (hf.cell (p := ⟨kb, 2, none⟩) hlt hnk).trans hx2; have y3 := (hf.cell (p := ⟨kb, 3, none⟩) hlt hnk).trans hx3; have y4 := (hf.cell (p := ⟨kb, 4, none⟩) hlt hnk).trans hx4; have y5 := (hf.cell (p := ⟨kb, 5, none⟩) hlt hnk).trans hx5; have y6 := (hf.cell (p := ⟨kb, 6, none⟩) hlt hnk).trans hx6; have s1 := hf.size
    go_wp2
    exact FR.Flow.post_det ⟨hf, hr⟩ (AppF.refl _) rfl rfl
  apply FR.Flow.det_step
  · go_light
    intro w1 hC1
    simp only [FR.Flow.fill, FR.Flow.after, FR.Flow.at_, List.nil_append, List.cons_append, List.getD_cons_zero, List.getD_cons_succ, FR.det, forall_eq, List.setIfInBounds_toArray, List.set_cons_zero, List.set_cons_succ, List.drop, List.length]
    obtain ⟨hf, hr⟩ := hC1
    have k0 := (hf.cell (p := ⟨g, 0, none⟩) hlg hng).trans hc0; have k1 := (hf.cell (p := ⟨g, 1, none⟩) hlg hng).trans hc1; have kp := (hf.cell (p := ⟨p, 0, none⟩) hlp hnp).trans hcp; have y0 := (hf.cell (p := ⟨kb, 0, none⟩) hlt hnk).trans hx0; have y1 := (hf.cell (p := ⟨kb, 1, none⟩) hlt hnk).trans hx1; have y2 := (hf.cell (p := ⟨kb, 2, none⟩) hlt hnk).trans hx2; have y3 := (hf.cell (p := ⟨kb, 3, none⟩) hlt hnk).trans hx3; have y4 := (hf.cell (p := ⟨kb, 4, none⟩) hlt hnk).trans hx4; have y5 := (hf.cell (p := ⟨kb, 5, none⟩) hlt hnk).trans hx5; have y6 := (hf.cell (p := ⟨kb, 6, none⟩) hlt hnk).trans hx6; have s1 := hf.size
    go_wp2
    exact FR.Flow.post_det ⟨hf, hr⟩ (AppF.refl _) rfl rfl
  apply FR.Flow.det_step
  · go_light
    intro w1 hC1
    simp only [FR.Flow.fill, FR.Flow.after, FR.Flow.at_, List.nil_append, List.cons_append, List.getD_cons_zero, List.getD_cons_succ, FR.det, forall_eq, List.setIfInBounds_toArray, List.set_cons_zero, List.set_cons_succ, List.drop, List.length]
    obtain ⟨hf, hr⟩ := hC1
    have k0 := (hf.cell (p := ⟨g, 0, none⟩) hlg hng).trans hc0; have k1 := (hf.cell (p := ⟨g, 1, none⟩) hlg hng).trans hc1; have kp := (hf.cell (p := ⟨p, 0, none⟩) hlp hnp).trans hcp; have y0 := (hf.cell (p := ⟨kb, 0, none⟩) hlt hnk).trans hx0; have y1 := (hf.cell (p := ⟨kb, 1, none⟩) hlt hnk).trans hx1; have y2 := (hf.cell (p := ⟨kb, 2, none⟩) hlt hnk).trans hx2; have y3 := (hf.cell (p := ⟨kb, 3, none⟩) hlt hnk).trans hx3; have y4 := (hf.cell (p := ⟨kb, 4, none⟩) hlt hnk).trans hx4; have y5 := (hf.cell (p := ⟨kb, 5, none⟩) hlt hnk).trans hx5; have y6 := (hf.cell (p := ⟨kb, 6, none⟩) hlt hnk).trans hx6; have s1 := hf.size
    go_wp2
    exact FR.Flow.post_det ⟨hf, hr⟩ (AppF.refl _) rfl rfl
  apply FR.Flow.det_step
  · go_light
    intro w1 hC1
    simp only [FR.Flow.fill, FR.Flow.after, FR.Flow.at_, List.nil_append, List.cons_append, List.getD_cons_zero, List.getD_cons_succ, FR.det, forall_eq, List.setIfInBounds_toArray, List.set_cons_zero, List.set_cons_succ, List.drop, List.length]
    obtain ⟨hf, hr⟩ := hC1
    have k0 := (hf.cell (p := ⟨g, 0, none⟩) hlg hng).trans hc0; have k1 := (hf.cell (p := ⟨g, 1, none⟩) hlg hng).trans hc1; have kp := (hf.cell (p := ⟨p, 0, none⟩) hlp hnp).trans hcp; have y0 := (hf.cell (p := ⟨kb, 0, none⟩) hlt hnk).trans hx0; have y1 := (hf.cell (p := ⟨kb, 1, none⟩) hlt hnk).trans hx1; have y2 := (hf.cell (p := ⟨kb, 2, none⟩) hlt hnk).trans hx2; have y3 := (hf.cell (p := ⟨kb, 3, none⟩) hlt hnk).trans hx3; have y4 := (hf.cell (p := ⟨kb, 4, none⟩) hlt hnk).trans hx4; have y5 := (hf.cell (p := ⟨kb, 5, none⟩) hlt hnk).trans hx5; have y6 := (hf.cell (p := ⟨kb, 6, none⟩) hlt hnk).trans hx6; have s1 := hf.size
    go_wp2
    exact FR.Flow.post_det ⟨hf, hr⟩ (AppF.refl _) rfl rfl
  apply FR.Flow.det_step
  · go_light
    intro w1 hC1
    simp only [FR.Flow.fill, FR.Flow.after, FR.Flow.at_, List.nil_append, List.cons_append, List.getD_cons_zero, List.getD_cons_succ, FR.det, forall_eq, List.setIfInBounds_toArray, List.set_cons_zero, List.set_cons_succ, List.drop, List.length]
    obtain ⟨hf, hr⟩ := hC1
    have k0 := (hf.cell (p := ⟨g, 0, none⟩) hlg hng).trans hc0; have k1 := (hf.cell (p := ⟨g, 1, none⟩) hlg hng).trans hc1; have kp := (hf.cell (p := ⟨p, 0, none⟩) hlp hnp).trans hcp; have y0 := (hf.cell (p := ⟨kb, 0, none⟩) hlt hnk).trans hx0; have y1 := (hf.cell (p := ⟨kb, 1, none⟩) hlt hnk).trans hx1; have y2 := (hf.cell (p := ⟨kb, 2, none⟩) hlt hnk).trans hx2; have y3 := (hf.cell (p := ⟨kb, 3, none⟩) hlt hnk).trans hx3; have y4 := (hf.cell (p := ⟨kb, 4, none⟩) hlt hnk).trans hx4; have y5 := (hf.cell (p := ⟨kb, 5, none⟩) hlt hnk).trans hx5; have y6 := (hf.cell (p := ⟨kb, 6, none⟩) hlt hnk).trans hx6; have s1 := hf.size
    go_wp2
    exact FR.Flow.post_det ⟨hf, hr⟩ (AppF.refl _) rfl rfl
  apply FR.Flow.det_step
  · go_light
    intro w1 hC1
    simp only [FR.Flow.fill, FR.Flow.after, FR.Flow.at_, List.nil_append, List.cons_append, List.getD_cons_zero, List.getD_cons_succ, FR.det, forall_eq, List.setIfInBounds_toArray, List.set_cons_zero, List.set_cons_succ, List.drop, List.length]
    obtain ⟨hf, hr⟩ := hC1
    have k0 := (hf.cell (p := ⟨g, 0, none⟩) hlg hng).trans hc0; have k1 := (hf.cell (p := ⟨g, 1, none⟩) hlg hng).trans hc1; have kp := (hf.cell (p := ⟨p, 0, none⟩) hlp hnp).trans hcp; have y0 := (hf.cell (p := ⟨kb, 0, none⟩) hlt hnk).trans hx0; have y1 := (hf.cell (p := ⟨kb, 1, none⟩) hlt hnk).trans hx1; have y2 := (hf.cell (p := ⟨kb, 2, none⟩) hlt hnk).trans hx2; have y3 := (hf.cell (p := ⟨kb, 3, none⟩) hlt hnk).trans hx3; have y4 := (hf.cell (p := ⟨kb, 4, none⟩) hlt hnk).trans hx4; have y5 := (hf.cell (p := ⟨kb, 5, none⟩) hlt hnk).trans hx5; have y6 := (hf.cell (p := ⟨kb, 6, none⟩) hlt hnk).trans hx6; have s1 := hf.size
    go_wp2
    exact FR.Flow.post_det ⟨hf, hr⟩ (AppF.refl _) rfl rfl
  apply FR.Flow.det_step
  · go_light
    intro w1 hC1
    simp only [FR.Flow.fill, FR.Flow.after, FR.Flow.at_, List.nil_append, List.cons_append, List.getD_cons_zero, List.getD_cons_succ, FR.det, forall_eq, List.setIfInBounds_toArray, List.set_cons_zero, List.set_cons_succ, List.drop, List.length]
    obtain ⟨hf, hr⟩ := hC1
    have k0 := (hf.cell (p := ⟨g, 0, none⟩) hlg hng).trans hc0; have k1 := (hf.cell (p := ⟨g, 1, none⟩) hlg hng).trans hc1; have kp := (hf.cell (p := ⟨p, 0, none⟩) hlp hnp).trans hcp; have y0 := (hf.cell (p := ⟨kb, 0, none⟩) hlt hnk).trans hx0; have y1 := (hf.cell (p := ⟨kb, 1, none⟩) hlt hnk).trans hx1; have y2 := (hf.cell (p := ⟨kb, 2, none⟩) hlt hnk).trans hx2; have y3 := (hf.cell (p := ⟨kb, 3, none⟩) hlt hnk).trans hx3; have y4 := (hf.cell (p := ⟨kb, 4, none⟩) hlt hnk).trans hx4; have y5 := (hf.cell (p := ⟨kb, 5, none⟩) hlt hnk).trans hx5; have y6 := (hf.cell (p := ⟨kb, 6, none⟩) hlt hnk).trans hx6; have s1 := hf.size
    go_wp2
    exact FR.Flow.post_det ⟨hf, hr⟩ (AppF.refl _) rfl rfl
  apply FR.Flow.det_step
  · go_light
    intro w1 hC1
    simp only [FR.Flow.fill, FR.Flow.after, FR.Flow.at_, List.nil_append, List.cons_append, List.getD_cons_zero, List.getD_cons_succ, FR.det, forall_eq, List.setIfInBounds_toArray, List.set_cons_zero, List.set_cons_succ, List.drop, List.length]
    obtain ⟨hf, hr⟩ := hC1
    have k0 := (hf.cell (p := ⟨g, 0, none⟩) hlg hng).trans hc0; have k1 := (hf.cell (p := ⟨g, 1, none⟩) hlg hng).trans hc1; have kp := (hf.cell (p := ⟨p, 0, none⟩) hlp hnp).trans hcp; have y0 := (hf.cell (p := ⟨kb, 0, none⟩) hlt hnk).trans hx0; have y1 := (hf.cell (p := ⟨kb, 1, none⟩) hlt hnk).trans hx1; have y2 := (hf.cell (p := ⟨kb, 2, none⟩) hlt hnk).trans hx2; have y3 := (hf.cell (p := ⟨kb, 3, none⟩) hlt hnk).trans hx3; have y4 := (hf.cell (p := ⟨kb, 4, none⟩) hlt hnk).trans hx4; have y5 := (hf.cell (p := ⟨kb, 5, none⟩) hlt hnk).trans hx5; have y6 := (hf.cell (p := ⟨kb, 6, none⟩) hlt hnk).trans hx6; have s1 := hf.size
    go_wp2
    exact FR.Flow.post_det ⟨hf, hr⟩ (AppF.refl _) rfl rfl
  apply FR.Flow.det_step
  · go_light
    intro w1 hC1
    simp only [FR.Flow.fill, FR.Flow.after, FR.Flow.at_, List.nil_append, List.cons_append, List.getD_cons_zero, List.getD_cons_succ, FR.det, forall_eq, List.setIfInBounds_toArray, List.set_cons_zero, List.set_cons_succ, List.drop, List.length]
    obtain ⟨hf, hr⟩ := hC1
    have k0 := (hf.cell (p := ⟨g, 0, none⟩) hlg hng).trans hc0; have k1 := (hf.cell (p := ⟨g, 1, none⟩) hlg hng).trans hc1; have kp := (hf.cell (p := ⟨p, 0, none⟩) hlp hnp).trans hcp; have y0 := (hf.cell (p := ⟨kb, 0, none⟩) hlt hnk).trans hx0; have y1 := (hf.cell (p := ⟨kb, 1, none⟩) hlt hnk).trans hx1; have y2 := (hf.cell (p := ⟨kb, 2, none⟩) hlt hnk).trans hx2; have y3 := (hf.cell (p := ⟨kb, 3, none⟩) hlt hnk).trans hx3; have y4 := (hf.cell (p := ⟨kb, 4, none⟩) hlt hnk).trans hx4; have y5 := (hf.cell (p := ⟨kb, 5, none⟩) hlt hnk).trans hx5; have y6 := (hf.cell (p := ⟨kb, 6, none⟩) hlt hnk).trans hx6; have s1 := hf.size
    go_wp2
    exact FR.Flow.post_det ⟨hf, hr⟩ (AppF.refl _) rfl rfl
  refine FR.Flow.st_step (bufSt B 32 8 wS.heap.size A0 q.2.length c0 (q.2.length + 1) (q.2.flatMap Stp.cells ++ x.cells) (fun g => .slice (some ⟨g, 0, none⟩) 1 1) x.cells) ?_ ?_
  · go_light
    intro w1 hC1
    simp only [FR.Flow.fill, FR.Flow.after, FR.Flow.at_, List.nil_append, List.cons_append, List.getD_cons_zero, List.getD_cons_succ, FR.det, forall_eq, List.setIfInBounds_toArray, List.set_cons_zero, List.set_cons_succ, List.drop, List.length]
    obtain ⟨hf, hr⟩ := hC1
    have k0 := (hf.cell (p := ⟨g, 0, none⟩) hlg hng).trans hc0; have k1 := (hf.cell (p := ⟨g, 1, none⟩) hlg hng).trans hc1; have kp := (hf.cell (p := ⟨p, 0, none⟩) hlp hnp).trans hcp; have y0 := (hf.cell (p := ⟨kb, 0, none⟩) hlt hnk).trans hx0; have y1 := (hf.cell (p := ⟨kb, 1, none⟩) hlt hnk).trans hx1; have y2 := (hf.cell (p := ⟨kb, 2, none⟩) hlt hnk).trans hx2; have y3 := (hf.cell (p := ⟨kb, 3, none⟩) hlt hnk).trans hx3; have y4 := (hf.cell (p := ⟨kb, 4, none⟩) hlt hnk).trans hx4; have y5 := (hf.cell (p := ⟨kb, 5, none⟩) hlt hnk).trans hx5; have y6 := (hf.cell (p := ⟨kb, 6, none⟩) hlt hnk).trans hx6; have s1 := hf.size
    go_wp2
    exact FR.Flow.post_st ⟨hf.alloc _, hr.alloc _⟩ (AppF.alloc _ _) rfl rfl (buf_alloc w1 32 x.cells _ (by rw [HXC.out]) (by rfl) (fun k hk => (hr.lt k hk).2) s1)
  refine FR.Flow.st_step (appfSt B 32 8 wS.heap.size A0 q.2.length c0 (q.2.length + 1) (q.2.flatMap Stp.cells ++ x.cells)) ?_ ?_
  · go_light
    intro w1 hC1
    simp only [FR.Flow.fill, FR.Flow.after, FR.Flow.at_, List.nil_append, List.cons_append, List.getD_cons_zero, List.getD_cons_succ, FR.det, forall_eq, List.setIfInBounds_toArray, List.set_cons_zero, List.set_cons_succ, List.drop, List.length]
    rintro _ ⟨g6, rfl, hg6n, hg6s, hg6, hcs6⟩
    obtain ⟨hf, hr⟩ := hC1
    have k0 := (hf.cell (p := ⟨g, 0, none⟩) hlg hng).trans hc0; have k1 := (hf.cell (p := ⟨g, 1, none⟩) hlg hng).trans hc1; have kp := (hf.cell (p := ⟨p, 0, none⟩) hlp hnp).trans hcp; have y0 := (hf.cell (p := ⟨kb, 0, none⟩) hlt hnk).trans hx0; have y1 := (hf.cell (p := ⟨kb, 1, none⟩) hlt hnk).trans hx1; have y2 := (hf.cell (p := ⟨kb, 2, none⟩) hlt hnk).trans hx2; have y3 := (hf.cell (p := ⟨kb, 3, none⟩) hlt hnk).trans hx3; have y4 := (hf.cell (p := ⟨kb, 4, none⟩) hlt hnk).trans hx4; have y5 := (hf.cell (p := ⟨kb, 5, none⟩) hlt hnk).trans hx5; have y6 := (hf.cell (p := ⟨kb, 6, none⟩) hlt hnk).trans hx6; have s1 := hf.size
    refine wpList_append_row_at w1 rfl (.tmp 13) (.tmp 20) 24 rfl B 32 i0 (.agg #[.int .i64 0, .int .i64 0, .int .i64 0, .int .i64 0, .int .i64 0, .string ByteArray.empty, .string ByteArray.empty, .slice none 0 0]) 8 96 Try.underlying24 hi hz0 hz1 hz2 rfl (by decide) A0 q.2.length c0 (q.2.flatMap Stp.cells) rfl hr _ (some ⟨g6, 0, none⟩) 1 1 x.cells rfl (buf_reads rfl hg6 hcs6) (stp_one x) (by unfold maxLen; omega) (by omega) (Nat.le_trans hBS s1) (by decide) wS.heap.size s1 (fun k hk => (HRS.out.lt k hk).2) ?_
    intro A9 c9 w9 hA9 hR9 hr9 hg9
    exact FR.Flow.post_st ⟨hf.grown hg9 (fun k e _ => e), hr9⟩ hR9 rfl rfl ⟨A9, c9, rfl, hA9⟩
  apply FR.Flow.det_step
  · go_light
    intro w1 hC1
    simp only [FR.Flow.fill, FR.Flow.after, FR.Flow.at_, List.nil_append, List.cons_append, List.getD_cons_zero, List.getD_cons_succ, FR.det, forall_eq, List.setIfInBounds_toArray, List.set_cons_zero, List.set_cons_succ, List.drop, List.length]
    obtain ⟨hf, hr⟩ := hC1
    have k0 := (hf.cell (p := ⟨g, 0, none⟩) hlg hng).trans hc0; have k1 := (hf.cell (p := ⟨g, 1, none⟩) hlg hng).trans hc1; have kp := (hf.cell (p := ⟨p, 0, none⟩) hlp hnp).trans hcp; have y0 := (hf.cell (p := ⟨kb, 0, none⟩) hlt hnk).trans hx0; have y1 := (hf.cell (p := ⟨kb, 1, none⟩) hlt hnk).trans hx1; have y2 := (hf.cell (p := ⟨kb, 2, none⟩) hlt hnk).trans hx2; have y3 := (hf.cell (p := ⟨kb, 3, none⟩) hlt hnk).trans hx3; have y4 := (hf.cell (p := ⟨kb, 4, none⟩) hlt hnk).trans hx4; have y5 := (hf.cell (p := ⟨kb, 5, none⟩) hlt hnk).trans hx5; have y6 := (hf.cell (p := ⟨kb, 6, none⟩) hlt hnk).trans hx6; have s1 := hf.size
    go_wp2
    exact FR.Flow.post_det ⟨hf, hr⟩ (AppF.refl _) rfl rfl
  intro w1 hC1
  simp only [FR.Flow.fill, FR.Flow.after, FR.Flow.at_, List.nil_append, List.cons_append, List.getD_cons_zero, List.getD_cons_succ, FR.det, forall_eq, List.setIfInBounds_toArray, List.set_cons_zero, List.set_cons_succ, List.drop, List.length]
  rintro _ ⟨g6, rfl, hg6n, hg6s, hg6, hcs6⟩ _ ⟨A9, c9, rfl, hA9⟩
  obtain ⟨hf, hr⟩ := hC1
  have k0 := (hf.cell (p := ⟨g, 0, none⟩) hlg hng).trans hc0; have k1 := (hf.cell (p := ⟨g, 1, none⟩) hlg hng).trans hc1; have kp := (hf.cell (p := ⟨p, 0, none⟩) hlp hnp).trans hcp; have y0 := (hf.cell (p := ⟨kb, 0, none⟩) hlt hnk).trans hx0; have y1 := (hf.cell (p := ⟨kb, 1, none⟩) hlt hnk).trans hx1; have y2 := (hf.cell (p := ⟨kb, 2, none⟩) hlt hnk).trans hx2; have y3 := (hf.cell (p := ⟨kb, 3, none⟩) hlt hnk).trans hx3; have y4 := (hf.cell (p := ⟨kb, 4, none⟩) hlt hnk).trans hx4; have y5 := (hf.cell (p := ⟨kb, 5, none⟩) hlt hnk).trans hx5; have y6 := (hf.cell (p := ⟨kb, 6, none⟩) hlt hnk).trans hx6; have s1 := hf.size
  have HP := Lib.hid (HA.out A9 c9 w1 (AppF.grown hf) hA9.row hA9.own)
  rw [HX.out] at HP
  have kb9 := HSB.out.fr hf hnp
  have f0 := kb9.free 0
  have l9 := kb9.lt
  clear hA9 hcs6 hr kb9
  go_wp2
  exact bodyPost_ret (v := .tuple #[]) (by simp [results, Try.results15, go_sem]) rfl ⟨rfl, HP.out⟩
/-- 'slices.Index' at the eight cells of a maker. -/
theorem index_any (W : World) (g : Nat) (S : Fds) (hc : ∀ k : Nat, k < 8 → W.cell? ⟨g, 2 + k, none⟩ = some (.bool (S k))) (hg : g < W.heap.size) :
    Calls Try.prog 32 #[.slice (some ⟨g, 2, none⟩) 8 8, .bool false] W fun e w' => e = .returned (.int .i64 (lst S)) ∧ W = w' := by
  go_enter Try.func32, Try.ntmps32
  go_wp2_with fail
  go_loopw [8] (fun i wr => wr = W ∧ ∃ k : Nat, i = .int .i64 k ∧ k ≤ 8 ∧ ∀ j : Nat, j < k → S j = true) (fun i _ => 8 - (intOf i).toNat)
  case atStart => exact ⟨rfl, 0, rfl, by omega, fun j hj => by omega⟩
  case round =>
    obtain ⟨rfl, k, rfl, hk, hb⟩ := hrel
    have HB := Lib.hid hb
    clear hb
    by_cases h8 : k = 8
    · subst h8
      have HN := Lib.hid (lst_none (S := S) (fun j h0 h1 => by
        obtain ⟨m, rfl⟩ : ∃ m : Nat, j = m := ⟨j.toNat, by omega⟩
        exact HB.out m (by omega)))
      go_wp2
      go_ret
      exact ⟨by rw [HN.out]; rfl, rfl⟩
    · have h8' : (k : Int) < 8 := by omega
      have hd : decide ((k : Int) < 8) = true := by simp; omega
      have hck := hc k (by omega)
      obtain ⟨x, hx⟩ : ∃ x, S k = x := ⟨_, rfl⟩
      rw [hx] at hck
      cases x with
      | true =>
        go_wp2
        go_roundw
        case rel => exact ⟨trivial, k + 1, by go_num, by omega, fun j hj => by
          rcases (by omega : j < k ∨ j = k) with h | rfl
          · exact HB.out j h
          · exact hx⟩
        case measure => simp [intOf]; omega
      | false =>
        have HN := Lib.hid (lst_at (S := S) (x := k) (by omega) hx (fun j h0 h1 => by
          obtain ⟨m, rfl⟩ : ∃ m : Nat, j = m := ⟨j.toNat, by omega⟩
          exact HB.out m (by omega)))
        clear hx
        go_wp2
        go_ret
        exact ⟨by rw [HN.out]; rfl, rfl⟩
/-- 'least'. -/
theorem least_any (W : World) (B g p : Nat) (v : Value) (who : Int) (q : Pst) (h : Mk W B g p v who q) (hq : 1 ≤ cnt q.1) :
    Calls Try.prog 16 #[.pointer (some ⟨g, 0, none⟩)] W fun e w' => e = .returned (.int .i64 (lst q.1)) ∧ MGo W B g p v who (takeF q) w' := by
  obtain ⟨h0, h1, h2, h3⟩ := lst_is hq
  obtain ⟨k, hk⟩ : ∃ k : Nat, lst q.1 = k := ⟨(lst q.1).toNat, by omega⟩
  have HI := Lib.hid (index_any W g q.1 (fun k hk => (h.mb.cell (2 + k)).trans (mkC_at p who q.1 hk)) h.mb.lt)
  have HP : Hid (MGo W B g p v who (takeF q) (W.setCell ⟨g, 2 + k, none⟩ (.bool true))) := Lib.hid (by
    have := h.put (k := k) (by omega) true
    unfold takeF; rw [hk]; exact this)
  have hck := (h.mb.cell (2 + k)).trans (mkC_at p who q.1 (by omega))
  have hlg := h.mb.lt
  have hfk := h.mb.free (2 + k)
  rw [hk] at h0 h1 HI ⊢
  have hk8 : k < 8 := by omega
  have hd : decide ((0 : Int) ≤ k) = true := by simp
  clear h h2 h3 hk
  go_enter Try.func16, Try.ntmps16
  go_wp2_with fail
  refine HI.out.mono ?_
  rintro e w' ⟨rfl, rfl⟩
  clear HI
  go_wp2
  go_ret
  exact ⟨rfl, HP.out⟩
end Go.Proofs.Ytjeclmkdojnflaa
