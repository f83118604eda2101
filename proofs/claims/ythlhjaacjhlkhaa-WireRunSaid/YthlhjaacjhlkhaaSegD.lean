/- Contracts of seg.Encode and ringref4.SegBytes. -/
import Derived.Test.YthlhjaacjhlkhaaSegC
namespace Go.Proofs.Ythlhjaacjhlkhaa
open Go.RowKit
set_option maxHeartbeats 400000
set_option linter.unusedVariables false
set_option linter.unusedSimpArgs false
/-- The cells of a boxed segment, in a later world. -/
theorem box5 {w w1 : World} {c0 c1 c2 c3 c4 : Value} {t : TypeId} (hb : Below (w.heap.size + 1) (w.alloc (.cells #[c0, c1, c2, c3, c4] t)) w1) :
    w1.cell? ⟨w.heap.size, 0, none⟩ = some c0 ∧ w1.cell? ⟨w.heap.size, 1, none⟩ = some c1 ∧ w1.cell? ⟨w.heap.size, 2, none⟩ = some c2 ∧ w1.cell? ⟨w.heap.size, 3, none⟩ = some c3 ∧ w1.cell? ⟨w.heap.size, 4, none⟩ = some c4 := by
  refine ⟨?_, ?_, ?_, ?_, ?_⟩
  all_goals (rw [hb.cell (by simp)]; simp [go_sem])
theorem sum_range (xs : List Int) (h : Byt xs) : 0 ≤ sumI xs ∧ sumI xs ≤ 65535 := by
  have := canon_range _ (tot_range xs h 0).1
  unfold sumI; omega
/-- The head of a segment without its sum. -/
def headI (x1 x2 f wi : Int) (n : Nat) : List Int := fourI x1 ++ fourI x2 ++ [f, wi, (n : Int), 0]
/-- P50.3. -/
def encI (x1 x2 f wi : Int) (ds : List Int) : List Int :=
  headI x1 x2 f wi ds.length ++ [sumI (headI x1 x2 f wi ds.length ++ [0, 0] ++ ds) / 256, sumI (headI x1 x2 f wi ds.length ++ [0, 0] ++ ds) % 256] ++ ds

set_option maxHeartbeats 4000000 in
set_option maxRecDepth 100000 in
theorem segBytes_ok (x1 x2 x3 x4 : Int) (p : Option Addr) (n c : Nat) (ds : List Int) (w : World) (hx1 : 0 ≤ x1 ∧ x1 < 4294967296) (hx2 : 0 ≤ x2 ∧ x2 < 4294967296) (h3 : 0 ≤ x3 ∧ x3 ≤ 15) (h4 : 0 ≤ x4 ∧ x4 ≤ 255) (hn : n ≤ 32) (h : RB w w.heap.size p n ds) :
    Calls Try.prog 15 #[.agg #[.int .u32 x1, .int .u32 x2, .int .i64 x3, .int .i64 x4, .slice p n c]] w fun e w' => ∃ A m c', e = .returned (.tuple #[.slice A m c', .int .i64 0]) ∧ RB w' w'.heap.size A m (encI x1 x2 x3 x4 ds) ∧ Below w.heap.size w w' := by
  have hsb := fun W s => Lib.run_convert_string_bytes (P := Try.prog) W 9 23 5 s Try.underlying9 Try.underlying23 Try.underlying5
  have hck : checkI x3 x4 n = 0 := by unfold checkI; rw [if_neg (by omega), if_neg (by omega)]
  go_enter Try.func15, Try.ntmps15
  go_wp2_with (go_at_call 17; refine (segFault_any _ _ _ _ _ _ _ _ (by omega) (by omega)).mono ?_; rintro e w1 ⟨rfl, hb1⟩; simp only [World.size_alloc] at hb1)
  refine wp_region_walk (fun w' => Below (w.heap.size + 1) (w.alloc (.cells #[.int .u32 x1, .int .u32 x2, .int .i64 x3, .int .i64 x4, .slice p n c] 25)) w' ∧ w.heap.size + 1 ≤ w'.heap.size) [[], [(12, 0)], [(13, 1)], [], [(15, 3)], [(16, 4)], [(14, 2), (17, 5)], [], [(19, 7)], [(20, 8)], [], [(22, 10)], [(23, 11)], [], [(25, 13)], [(26, 14)], [(27, 15)], [(21, 9), (24, 12), (28, 16)], [(29, 17)], [(18, 6), (30, 18)]]
    [(12, 0), (13, 1), (14, 2), (15, 3), (16, 4), (17, 5), (18, 6), (19, 7), (20, 8), (21, 9), (22, 10), (23, 11), (24, 12), (25, 13), (26, 14), (27, 15), (28, 16), (29, 17), (30, 18), (31, 19)] (by kernel_rfl) (by kernel_rfl) (by kernel_rfl) ⟨hb1.drew, by have := hb1.size; simpa using this⟩ ?_
  apply Flow.det_step
  · go_light
    intro w1 hC1
    simp only [Flow.fill, Flow.after, Flow.at_, List.nil_append, List.cons_append, List.getD_cons_zero, List.getD_cons_succ, det, forall_eq, List.setIfInBounds_toArray, List.set_cons_zero, List.set_cons_succ, List.drop, List.length]
    obtain ⟨hb1, hsz1⟩ := hC1
    obtain ⟨k0, k1, k2, k3, k4⟩ := box5 hb1
    go_wp2
    exact Flow.post_det ⟨hb1, hsz1⟩ (Grow.refl _) rfl rfl
  apply Flow.det_step
  · go_light
    intro w1 hC1
    simp only [Flow.fill, Flow.after, Flow.at_, List.nil_append, List.cons_append, List.getD_cons_zero, List.getD_cons_succ, det, forall_eq, List.setIfInBounds_toArray, List.set_cons_zero, List.set_cons_succ, List.drop, List.length]
    obtain ⟨hb1, hsz1⟩ := hC1
    obtain ⟨k0, k1, k2, k3, k4⟩ := box5 hb1
    go_wp2
    exact Flow.post_det ⟨hb1, hsz1⟩ (Grow.refl _) rfl rfl
  apply Flow.det_step
  · go_light
    intro w1 hC1
    simp only [Flow.fill, Flow.after, Flow.at_, List.nil_append, List.cons_append, List.getD_cons_zero, List.getD_cons_succ, det, forall_eq, List.setIfInBounds_toArray, List.set_cons_zero, List.set_cons_succ, List.drop, List.length]
    obtain ⟨hb1, hsz1⟩ := hC1
    obtain ⟨k0, k1, k2, k3, k4⟩ := box5 hb1
    go_wp2_with (go_at_call 84; refine (big_any x1 _ hx1.1 hx1.2).mono ?_; rintro e w2 ⟨rfl, hg2⟩)
    exact Flow.post_det ⟨hb1.trans (hg2.mono hsz1), Nat.le_trans hsz1 hg2.size⟩ hg2 rfl rfl
  apply Flow.det_step
  · go_light
    intro w1 hC1
    simp only [Flow.fill, Flow.after, Flow.at_, List.nil_append, List.cons_append, List.getD_cons_zero, List.getD_cons_succ, det, forall_eq, List.setIfInBounds_toArray, List.set_cons_zero, List.set_cons_succ, List.drop, List.length]
    obtain ⟨hb1, hsz1⟩ := hC1
    obtain ⟨k0, k1, k2, k3, k4⟩ := box5 hb1
    go_wp2
    exact Flow.post_det ⟨hb1, hsz1⟩ (Grow.refl _) rfl rfl
  apply Flow.det_step
  · go_light
    intro w1 hC1
    simp only [Flow.fill, Flow.after, Flow.at_, List.nil_append, List.cons_append, List.getD_cons_zero, List.getD_cons_succ, det, forall_eq, List.setIfInBounds_toArray, List.set_cons_zero, List.set_cons_succ, List.drop, List.length]
    obtain ⟨hb1, hsz1⟩ := hC1
    obtain ⟨k0, k1, k2, k3, k4⟩ := box5 hb1
    go_wp2
    exact Flow.post_det ⟨hb1, hsz1⟩ (Grow.refl _) rfl rfl
  apply Flow.det_step
  · go_light
    intro w1 hC1
    simp only [Flow.fill, Flow.after, Flow.at_, List.nil_append, List.cons_append, List.getD_cons_zero, List.getD_cons_succ, det, forall_eq, List.setIfInBounds_toArray, List.set_cons_zero, List.set_cons_succ, List.drop, List.length]
    obtain ⟨hb1, hsz1⟩ := hC1
    obtain ⟨k0, k1, k2, k3, k4⟩ := box5 hb1
    go_wp2_with (go_at_call 84; refine (big_any x2 _ hx2.1 hx2.2).mono ?_; rintro e w2 ⟨rfl, hg2⟩)
    exact Flow.post_det ⟨hb1.trans (hg2.mono hsz1), Nat.le_trans hsz1 hg2.size⟩ hg2 rfl rfl
  apply Flow.det_step
  · go_light
    intro w1 hC1
    simp only [Flow.fill, Flow.after, Flow.at_, List.nil_append, List.cons_append, List.getD_cons_zero, List.getD_cons_succ, det, forall_eq, List.setIfInBounds_toArray, List.set_cons_zero, List.set_cons_succ, List.drop, List.length]
    obtain ⟨hb1, hsz1⟩ := hC1
    obtain ⟨k0, k1, k2, k3, k4⟩ := box5 hb1
    go_wp2
    exact Flow.post_det ⟨hb1, hsz1⟩ (Grow.refl _) rfl rfl
  apply Flow.det_step
  · go_light
    intro w1 hC1
    simp only [Flow.fill, Flow.after, Flow.at_, List.nil_append, List.cons_append, List.getD_cons_zero, List.getD_cons_succ, det, forall_eq, List.setIfInBounds_toArray, List.set_cons_zero, List.set_cons_succ, List.drop, List.length]
    obtain ⟨hb1, hsz1⟩ := hC1
    obtain ⟨k0, k1, k2, k3, k4⟩ := box5 hb1
    go_wp2
    exact Flow.post_det ⟨hb1, hsz1⟩ (Grow.refl _) rfl rfl
  apply Flow.det_step
  · go_light
    intro w1 hC1
    simp only [Flow.fill, Flow.after, Flow.at_, List.nil_append, List.cons_append, List.getD_cons_zero, List.getD_cons_succ, det, forall_eq, List.setIfInBounds_toArray, List.set_cons_zero, List.set_cons_succ, List.drop, List.length]
    obtain ⟨hb1, hsz1⟩ := hC1
    obtain ⟨k0, k1, k2, k3, k4⟩ := box5 hb1
    go_wp2
    exact Flow.post_det ⟨hb1, hsz1⟩ (Grow.refl _) rfl rfl
  apply Flow.det_step
  · go_light
    intro w1 hC1
    simp only [Flow.fill, Flow.after, Flow.at_, List.nil_append, List.cons_append, List.getD_cons_zero, List.getD_cons_succ, det, forall_eq, List.setIfInBounds_toArray, List.set_cons_zero, List.set_cons_succ, List.drop, List.length]
    obtain ⟨hb1, hsz1⟩ := hC1
    obtain ⟨k0, k1, k2, k3, k4⟩ := box5 hb1
    go_wp2
    exact Flow.post_det ⟨hb1, hsz1⟩ (Grow.refl _) rfl rfl
  apply Flow.det_step
  · go_light
    intro w1 hC1
    simp only [Flow.fill, Flow.after, Flow.at_, List.nil_append, List.cons_append, List.getD_cons_zero, List.getD_cons_succ, det, forall_eq, List.setIfInBounds_toArray, List.set_cons_zero, List.set_cons_succ, List.drop, List.length]
    obtain ⟨hb1, hsz1⟩ := hC1
    obtain ⟨k0, k1, k2, k3, k4⟩ := box5 hb1
    go_wp2
    exact Flow.post_det ⟨hb1, hsz1⟩ (Grow.refl _) rfl rfl
  apply Flow.det_step
  · go_light
    intro w1 hC1
    simp only [Flow.fill, Flow.after, Flow.at_, List.nil_append, List.cons_append, List.getD_cons_zero, List.getD_cons_succ, det, forall_eq, List.setIfInBounds_toArray, List.set_cons_zero, List.set_cons_succ, List.drop, List.length]
    obtain ⟨hb1, hsz1⟩ := hC1
    obtain ⟨k0, k1, k2, k3, k4⟩ := box5 hb1
    go_wp2
    exact Flow.post_det ⟨hb1, hsz1⟩ (Grow.refl _) rfl rfl
  apply Flow.det_step
  · go_light
    intro w1 hC1
    simp only [Flow.fill, Flow.after, Flow.at_, List.nil_append, List.cons_append, List.getD_cons_zero, List.getD_cons_succ, det, forall_eq, List.setIfInBounds_toArray, List.set_cons_zero, List.set_cons_succ, List.drop, List.length]
    obtain ⟨hb1, hsz1⟩ := hC1
    obtain ⟨k0, k1, k2, k3, k4⟩ := box5 hb1
    go_wp2
    exact Flow.post_det ⟨hb1, hsz1⟩ (Grow.refl _) rfl rfl
  apply Flow.det_step
  · go_light
    intro w1 hC1
    simp only [Flow.fill, Flow.after, Flow.at_, List.nil_append, List.cons_append, List.getD_cons_zero, List.getD_cons_succ, det, forall_eq, List.setIfInBounds_toArray, List.set_cons_zero, List.set_cons_succ, List.drop, List.length]
    obtain ⟨hb1, hsz1⟩ := hC1
    obtain ⟨k0, k1, k2, k3, k4⟩ := box5 hb1
    go_wp2
    exact Flow.post_det ⟨hb1, hsz1⟩ (Grow.refl _) rfl rfl
  apply Flow.det_step
  · go_light
    intro w1 hC1
    simp only [Flow.fill, Flow.after, Flow.at_, List.nil_append, List.cons_append, List.getD_cons_zero, List.getD_cons_succ, det, forall_eq, List.setIfInBounds_toArray, List.set_cons_zero, List.set_cons_succ, List.drop, List.length]
    obtain ⟨hb1, hsz1⟩ := hC1
    obtain ⟨k0, k1, k2, k3, k4⟩ := box5 hb1
    go_wp2
    exact Flow.post_det ⟨hb1, hsz1⟩ (Grow.refl _) rfl rfl
  apply Flow.det_step
  · go_light
    intro w1 hC1
    simp only [Flow.fill, Flow.after, Flow.at_, List.nil_append, List.cons_append, List.getD_cons_zero, List.getD_cons_succ, det, forall_eq, List.setIfInBounds_toArray, List.set_cons_zero, List.set_cons_succ, List.drop, List.length]
    obtain ⟨hb1, hsz1⟩ := hC1
    obtain ⟨k0, k1, k2, k3, k4⟩ := box5 hb1
    go_wp2
    exact Flow.post_det ⟨hb1, hsz1⟩ (Grow.refl _) rfl rfl
  apply Flow.det_step
  · go_light
    intro w1 hC1
    simp only [Flow.fill, Flow.after, Flow.at_, List.nil_append, List.cons_append, List.getD_cons_zero, List.getD_cons_succ, det, forall_eq, List.setIfInBounds_toArray, List.set_cons_zero, List.set_cons_succ, List.drop, List.length]
    obtain ⟨hb1, hsz1⟩ := hC1
    obtain ⟨k0, k1, k2, k3, k4⟩ := box5 hb1
    go_wp2
    exact Flow.post_det ⟨hb1, hsz1⟩ (Grow.refl _) rfl rfl
  refine Flow.st_step (freshSt (fun g => .slice (some ⟨g, 0, none⟩) 4 4) [.int .u8 x3, .int .u8 x4, .int .u8 n, .int .u8 0]) ?_ ?_
  · go_light
    intro w1 hC1
    simp only [Flow.fill, Flow.after, Flow.at_, List.nil_append, List.cons_append, List.getD_cons_zero, List.getD_cons_succ, det, forall_eq, List.setIfInBounds_toArray, List.set_cons_zero, List.set_cons_succ, List.drop, List.length]
    obtain ⟨hb1, hsz1⟩ := hC1
    obtain ⟨k0, k1, k2, k3, k4⟩ := box5 hb1
    go_wp2
    exact Flow.post_st ⟨hb1.alloc hsz1 _, by simp; omega⟩ (Grow.alloc _ _) rfl rfl (fresh_alloc _ _ _ _ (by rfl))
  apply Flow.det_step
  · go_light
    intro w1 hC1
    simp only [Flow.fill, Flow.after, Flow.at_, List.nil_append, List.cons_append, List.getD_cons_zero, List.getD_cons_succ, det, forall_eq, List.setIfInBounds_toArray, List.set_cons_zero, List.set_cons_succ, List.drop, List.length]
    rintro _ ⟨g, rfl, hg, hcs⟩
    obtain ⟨hb1, hsz1⟩ := hC1
    obtain ⟨k0, k1, k2, k3, k4⟩ := box5 hb1
    have hrb : RB w1 w1.heap.size (some ⟨g, 0, none⟩) 4 [x3, x4, (n : Int), 0] := RB.of_cells hg (by intro y hy; simp at hy; omega) hcs
    have ec := hrb.conv (P := Try.prog) 4 23 9 5 Try.underlying23 Try.underlying5 Try.underlying9
    go_wp2
    exact Flow.post_det ⟨hb1, hsz1⟩ (Grow.refl _) rfl rfl
  apply Flow.det_step
  · go_light
    intro w1 hC1
    simp only [Flow.fill, Flow.after, Flow.at_, List.nil_append, List.cons_append, List.getD_cons_zero, List.getD_cons_succ, det, forall_eq, List.setIfInBounds_toArray, List.set_cons_zero, List.set_cons_succ, List.drop, List.length]
    obtain ⟨hb1, hsz1⟩ := hC1
    obtain ⟨k0, k1, k2, k3, k4⟩ := box5 hb1
    go_wp2
    exact Flow.post_det ⟨hb1, hsz1⟩ (Grow.refl _) rfl rfl
  intro w1 hC1
  simp only [Flow.fill, Flow.after, Flow.at_, List.nil_append, List.cons_append, List.getD_cons_zero, List.getD_cons_succ, det, forall_eq, List.setIfInBounds_toArray, List.set_cons_zero, List.set_cons_succ, List.drop, List.length]
  rintro _ ⟨g, rfl, hg, hcs⟩
  obtain ⟨hb1, hsz1⟩ := hC1
  obtain ⟨k0, k1, k2, k3, k4⟩ := box5 hb1

  have eH : strOfNums (fourI x1) ++ strOfNums (fourI x2) ++ strOfNums [x3, x4, (n : Int), 0] = strOfNums (headI x1 x2 x3 x4 n) := by rw [strOfNums_append, strOfNums_append]; rfl
  rw [eH]
  have hHb : Byt (headI x1 x2 x3 x4 n) := ((fourI_byt x1 hx1.1 hx1.2).append (fourI_byt x2 hx2.1 hx2.2)).append (by intro y hy; simp at hy; omega)
  have hHl : (headI x1 x2 x3 x4 n).length = 12 := rfl
  have hbw1 : Below w.heap.size w w1 := ((Below.refl _ _).alloc (Nat.le_refl _) _).trans (hb1.mono (by omega))
  obtain ⟨H, hH⟩ : ∃ H, H = headI x1 x2 x3 x4 n := ⟨_, rfl⟩
  rw [← hH] at hHb hHl ⊢
  have HH := Lib.hid hH
  have HL := Lib.hid hHl
  clear hH hHl eH hcs
  have hp1 := h.below' hbw1 (Nat.le_refl _)
  have hlen := Lib.hid h.len
  have ec := hp1.conv (P := Try.prog) c 23 9 5 Try.underlying23 Try.underlying5 Try.underlying9
  have hszs : ∀ l, (strOfNums l).size = l.length := strOfNums_size
  have hl1 : H.length ≤ 12 := by rw [HL.out]; exact Nat.le_refl _
  have hl2 : ds.length ≤ 32 := by rw [hlen.out]; exact hn
  go_wp2_with fail
  have eS : strOfNums H ++ ByteArray.mk #[0, 0] ++ strOfNums ds = strOfNums (H ++ [0, 0] ++ ds) := by
    rw [show ByteArray.mk #[0, 0] = strOfNums [0, 0] from rfl, strOfNums_append, strOfNums_append]
  rw [eS]
  have hbS : Byt (H ++ [0, 0] ++ ds) := (hHb.append (by intro y hy; simp at hy; omega)).append h.2
  have hrS := RB.bytes w1 5 (H ++ [0, 0] ++ ds) hbS
  have hbbS := below_bytes w1 5 (strOfNums (H ++ [0, 0] ++ ds))
  have eL : (H ++ [0, 0] ++ ds).length = H.length + 2 + ds.length := by simp; omega
  rw [eL] at hrS
  clear eL
  refine (segSum_any _ _ _ (H ++ [0, 0] ++ ds) _ (hrS.more (by rw [Lib.bytesWorld_size]; exact Nat.le_refl _)) (by omega)).mono ?_
  rintro e w2 ⟨rfl, hb2⟩
  have hb12 : Below w1.heap.size w1 w2 := hbbS.trans (hb2.mono (by rw [Lib.bytesWorld_size]; omega))
  have hs := sum_range _ hbS
  obtain ⟨S, hS⟩ : ∃ S, S = sumI (H ++ [0, 0] ++ ds) := ⟨_, rfl⟩
  rw [← hS] at hs ⊢
  have HS := Lib.hid hS
  clear hS eS hrS hbbS hb2 hbS ec
  have k4' : w2.cell? ⟨w.heap.size, 4, none⟩ = some (Value.slice p n c) := (hb12.cell (p := ⟨w.heap.size, 4, none⟩) (by show w.heap.size < _; omega)).trans k4
  have hbT : Byt [S / 256, S % 256] := by intro y hy; simp at hy; omega
  have hrT : RB (w2.alloc (.cells #[.int .u8 (S / 256), .int .u8 (S % 256)] 5)) (w2.heap.size + 1) (some ⟨w2.heap.size, 0, none⟩) 2 [S / 256, S % 256] := RB.new w2 5 [S / 256, S % 256] hbT
  have eT := hrT.conv (P := Try.prog) 2 23 9 5 Try.underlying23 Try.underlying5 Try.underlying9
  have hsz2 := hb12.size
  have hp2 := (hp1.below' hb12 (by omega)).alloc (by omega) (.cells #[.int .u8 (S / 256), .int .u8 (S % 256)] 5)
  have eP := hp2.conv (P := Try.prog) c 23 9 5 Try.underlying23 Try.underlying5 Try.underlying9
  have k4n : w.heap.size < w2.heap.size := by omega
  clear k0 k1 k2 k3 k4
  have q1 : IntKind.u16.wrap (S.tdiv 256) = S / 256 := by rw [Int.tdiv_eq_ediv_of_nonneg hs.1, IntKind.wrap_u16]; omega
  have q2 : S / 256 % 256 = S / 256 := by omega
  go_wp2
  go_ret2
  have eO : strOfNums H ++ strOfNums [S / 256, S % 256] ++ strOfNums ds = strOfNums (encI x1 x2 x3 x4 ds) := by
    rw [strOfNums_append, strOfNums_append, HS.out, HH.out, ← hlen.out]; rfl
  have hbO : Byt (encI x1 x2 x3 x4 ds) := by
    have := (hHb.append hbT).append h.2
    rw [HS.out, HH.out, ← hlen.out] at this
    exact this
  have hl : (encI x1 x2 x3 x4 ds).length = H.length + 2 + ds.length := by
    unfold encI
    rw [HH.out]
    simp only [List.length_append, List.length_cons, List.length_nil]
    rfl
  have hr := RB.bytes (w2.alloc (.cells #[.int .u8 (S / 256), .int .u8 (S % 256)] 5)) 5 (encI x1 x2 x3 x4 ds) hbO
  rw [← eO, hl] at hr
  simp only [World.size_alloc] at hr
  refine ⟨_, _, _, rfl, hr.more (by rw [Lib.bytesWorld_size]; simp), ?_⟩
  exact ((hbw1.trans (hb12.mono (by omega))).alloc (by omega) _).trans ((below_bytes _ _ _).mono (by simp; omega))
end Go.Proofs.Ythlhjaacjhlkhaa
