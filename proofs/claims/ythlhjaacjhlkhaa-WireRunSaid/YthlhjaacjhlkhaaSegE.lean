/- Contracts of seg.Encode, and of both encoders where the segment may not be. -/
import Derived.Test.YthlhjaacjhlkhaaSegD
namespace Go.Proofs.Ythlhjaacjhlkhaa
open Go.RowKit
set_option maxHeartbeats 400000
set_option linter.unusedVariables false
set_option linter.unusedSimpArgs false
theorem own_base {w : World} {base base' : Nat} {e : TypeId} {size n : Nat} {v : Value} {xs : List Value} (h : w.ownsRow base e size v n xs) (hb : base' ≤ base) : w.ownsRow base' e size v n xs := by
  refine ⟨h.1, ?_⟩
  rcases h.2 with h2 | ⟨g, cap, cur, h1, h2, h3⟩
  · exact .inl h2
  · exact .inr ⟨g, cap, cur, h1, Nat.le_trans hb h2, h3⟩
/-- A slice in new blocks. -/
def FreshV (w : World) (A : Option Addr) (m c : Nat) : Prop := m ≤ c ∧ c ≤ 9223372036854775807 ∧ ∀ k, (Value.slice A m c).ownBlock = some k → w.heap.size ≤ k
theorem FreshV.none (w : World) : FreshV w Option.none 0 0 := ⟨Nat.le_refl _, Nat.zero_le _, fun k hk => by cases hk⟩
theorem FreshV.own {w w' : World} {base m c : Nat} {A : Option Addr} {xs : List Value} (h : w'.ownsRow base 5 1 (.slice A m c) m xs) (hb : w.heap.size ≤ base) : FreshV w A m c := by
  refine ⟨?_, ?_, fun k hk => Nat.le_trans hb (h.lt k hk).1⟩
  · rcases h.2 with ⟨e, h0⟩ | ⟨g, cap, cur, e, _, _, hn, hm, _⟩
    · injection e with e1 e2 e3
      omega
    · injection e with e1 e2 e3
      omega
  · rcases h.2 with ⟨e, h0⟩ | ⟨g, cap, cur, e, _, _, hn, hm, _⟩
    · injection e with e1 e2 e3
      omega
    · injection e with e1 e2 e3
      unfold maxLen at hm
      omega
theorem segBytes_bad (x1 x2 x3 x4 : Int) (p : Option Addr) (n c : Nat) (w : World) (h3 : -9223372036854775808 ≤ x3 ∧ x3 ≤ 9223372036854775807) (h4 : -9223372036854775808 ≤ x4 ∧ x4 ≤ 9223372036854775807) (hck : (checkI x3 x4 n != 0) = true) :
    Calls Try.prog 15 #[.agg #[.int .u32 x1, .int .u32 x2, .int .i64 x3, .int .i64 x4, .slice p n c]] w fun e w' => e = .returned (.tuple #[.slice none 0 0, .int .i64 (checkI x3 x4 n)]) ∧ Below w.heap.size w w' := by
  go_enter Try.func15, Try.ntmps15
  go_wp2_with (go_at_call 17; refine (segFault_any _ _ _ _ _ _ _ _ h3 h4).mono ?_; rintro e w1 ⟨rfl, hb1⟩; simp only [World.size_alloc] at hb1)
  go_ret2
  exact ⟨rfl, ((Below.refl _ _).alloc (Nat.le_refl _) _).trans (hb1.mono (by omega))⟩
theorem encode_bad (x1 x2 x3 x4 : Int) (p : Option Addr) (n c : Nat) (w : World) (hck : (checkI x3 x4 n != 0) = true) :
    Calls Try.prog 14 #[.agg #[.int .u32 x1, .int .u32 x2, .int .i64 x3, .int .i64 x4, .slice p n c]] w fun e w' => e = .returned (.tuple #[.slice none 0 0, .int .i64 (checkI x3 x4 n)]) ∧ Below w.heap.size w w' := by
  go_enter Try.func14, Try.ntmps14
  go_wp2_with (go_at_call 16; refine (check_any _ _ _ _ _ _ _ _).mono ?_; rintro e w1 ⟨rfl, hb1⟩; simp only [World.size_alloc] at hb1)
  go_ret2
  exact ⟨rfl, ((Below.refl _ _).alloc (Nat.le_refl _) _).trans (hb1.mono (by omega))⟩
set_option maxHeartbeats 4000000 in
set_option maxRecDepth 100000 in
theorem encode_ok (x1 x2 x3 x4 : Int) (p : Option Addr) (n c : Nat) (ds : List Int) (w : World) (hx1 : 0 ≤ x1 ∧ x1 < 4294967296) (hx2 : 0 ≤ x2 ∧ x2 < 4294967296) (h3 : 0 ≤ x3 ∧ x3 ≤ 15) (h4 : 0 ≤ x4 ∧ x4 ≤ 255) (hn : n ≤ 32) (h : RB w w.heap.size p n ds) :
    Calls Try.prog 14 #[.agg #[.int .u32 x1, .int .u32 x2, .int .i64 x3, .int .i64 x4, .slice p n c]] w fun e w' => ∃ A m c', e = .returned (.tuple #[.slice A m c', .int .i64 0]) ∧ RB w' w'.heap.size A m (encI x1 x2 x3 x4 ds) ∧ Below w.heap.size w w' ∧ FreshV w A m c' := by
  have hck : checkI x3 x4 n = 0 := by unfold checkI; rw [if_neg (by omega), if_neg (by omega)]
  go_enter Try.func14, Try.ntmps14
  go_wp2_with (go_at_call 16; refine (check_any _ _ _ _ _ _ _ _).mono ?_; rintro e w1 ⟨rfl, hb1⟩; simp only [World.size_alloc] at hb1)
  refine wp_region_walk (fun w' => Below (w.heap.size + 1) (w.alloc (.cells #[.int .u32 x1, .int .u32 x2, .int .i64 x3, .int .i64 x4, .slice p n c] 25)) w' ∧ w.heap.size + 1 ≤ w'.heap.size) [[], [(12, 0)], [(13, 1)], [], [(15, 3)], [(16, 4)], [(14, 2), (17, 5)], [], [(19, 7)], [(20, 8)], [], [(22, 10)], [(23, 11)], [], [(25, 13)], [(26, 14)], [(27, 15)], [(21, 9), (24, 12), (28, 16)]]
    [(12, 0), (13, 1), (14, 2), (15, 3), (16, 4), (17, 5), (18, 6), (19, 7), (20, 8), (21, 9), (22, 10), (23, 11), (24, 12), (25, 13), (26, 14), (27, 15), (28, 16), (29, 17)] (by kernel_rfl) (by kernel_rfl) (by kernel_rfl) ⟨hb1.drew, by have := hb1.size; simpa using this⟩ ?_
  apply Flow.det_step
  · go_light
    intro w1 hC1
    simp only [Flow.fill, Flow.after, Flow.at_, List.nil_append, List.cons_append, List.getD_cons_zero, List.getD_cons_succ, det, forall_eq, List.setIfInBounds_toArray, List.set_cons_zero, List.set_cons_succ, List.drop, List.length]
    obtain ⟨hb1, hsz1⟩ := hC1
    obtain ⟨k0, k1, k2, k3, k4⟩ := box5 hb1
    go_wp2
    exact Flow.post_det ⟨hb1, hsz1⟩ (Grow.refl _) rfl rfl
  apply Flow.det_step
  · go_light
    intro w1 hC1
    simp only [Flow.fill, Flow.after, Flow.at_, List.nil_append, List.cons_append, List.getD_cons_zero, List.getD_cons_succ, det, forall_eq, List.setIfInBounds_toArray, List.set_cons_zero, List.set_cons_succ, List.drop, List.length]
    obtain ⟨hb1, hsz1⟩ := hC1
    obtain ⟨k0, k1, k2, k3, k4⟩ := box5 hb1
    go_wp2
    exact Flow.post_det ⟨hb1, hsz1⟩ (Grow.refl _) rfl rfl
  refine Flow.st_step (freshSt (fun g => .slice (some ⟨g, 0, none⟩) 4 4) ((fourI x1).map (Value.int .u8))) ?_ ?_
  · go_light
    intro w1 hC1
    simp only [Flow.fill, Flow.after, Flow.at_, List.nil_append, List.cons_append, List.getD_cons_zero, List.getD_cons_succ, det, forall_eq, List.setIfInBounds_toArray, List.set_cons_zero, List.set_cons_succ, List.drop, List.length]
    obtain ⟨hb1, hsz1⟩ := hC1
    obtain ⟨k0, k1, k2, k3, k4⟩ := box5 hb1
    go_wp2_with (go_at_call 82; refine (four_any x1 _ hx1.1 hx1.2).mono ?_; rintro e w2 ⟨rfl, hg2⟩)
    subst hg2
    exact Flow.post_st ⟨hb1.alloc hsz1 _, by simp; omega⟩ (Grow.alloc _ _) rfl rfl (fresh_alloc _ _ _ _ (by rfl))
  apply Flow.det_step
  · go_light
    intro w1 hC1
    simp only [Flow.fill, Flow.after, Flow.at_, List.nil_append, List.cons_append, List.getD_cons_zero, List.getD_cons_succ, det, forall_eq, List.setIfInBounds_toArray, List.set_cons_zero, List.set_cons_succ, List.drop, List.length]
    obtain ⟨hb1, hsz1⟩ := hC1
    obtain ⟨k0, k1, k2, k3, k4⟩ := box5 hb1
    go_wp2
    exact Flow.post_det ⟨hb1, hsz1⟩ (Grow.refl _) rfl rfl
  apply Flow.det_step
  · go_light
    intro w1 hC1
    simp only [Flow.fill, Flow.after, Flow.at_, List.nil_append, List.cons_append, List.getD_cons_zero, List.getD_cons_succ, det, forall_eq, List.setIfInBounds_toArray, List.set_cons_zero, List.set_cons_succ, List.drop, List.length]
    obtain ⟨hb1, hsz1⟩ := hC1
    obtain ⟨k0, k1, k2, k3, k4⟩ := box5 hb1
    go_wp2
    exact Flow.post_det ⟨hb1, hsz1⟩ (Grow.refl _) rfl rfl
  refine Flow.st_step (freshSt (fun g => .slice (some ⟨g, 0, none⟩) 4 4) ((fourI x2).map (Value.int .u8))) ?_ ?_
  · go_light
    intro w1 hC1
    simp only [Flow.fill, Flow.after, Flow.at_, List.nil_append, List.cons_append, List.getD_cons_zero, List.getD_cons_succ, det, forall_eq, List.setIfInBounds_toArray, List.set_cons_zero, List.set_cons_succ, List.drop, List.length]
    obtain ⟨hb1, hsz1⟩ := hC1
    obtain ⟨k0, k1, k2, k3, k4⟩ := box5 hb1
    go_wp2_with (go_at_call 82; refine (four_any x2 _ hx2.1 hx2.2).mono ?_; rintro e w2 ⟨rfl, hg2⟩)
    subst hg2
    exact Flow.post_st ⟨hb1.alloc hsz1 _, by simp; omega⟩ (Grow.alloc _ _) rfl rfl (fresh_alloc _ _ _ _ (by rfl))
  refine Flow.st_step (ownSt (w.heap.size + 1) 5 1 8 ((fourI x1 ++ fourI x2).map (Value.int .u8))) ?_ ?_
  · go_light
    intro w1 hC1
    simp only [Flow.fill, Flow.after, Flow.at_, List.nil_append, List.cons_append, List.getD_cons_zero, List.getD_cons_succ, det, forall_eq, List.setIfInBounds_toArray, List.set_cons_zero, List.set_cons_succ, List.drop, List.length]
    rintro _ ⟨g1, rfl, hg1, hcs1⟩ _ ⟨g2, rfl, hg2, hcs2⟩
    obtain ⟨hb1, hsz1⟩ := hC1
    obtain ⟨k0, k1, k2, k3, k4⟩ := box5 hb1
    obtain ⟨i0, hi0, hz0, hz1, hz2⟩ := info_parts u8info
    refine wpList_append_grows _ rfl (.tmp 14) (.tmp 17) _ rfl 5 i0 _ 1 1 Try.underlying23 hi0 hz0 hz1 hz2 rfl (by omega) (some ⟨g1, 0, none⟩) 4 4 ((fourI x1).map (Value.int .u8)) rfl (by simp) rfl (fun b hb j u hu => by cases hb; rw [add_plain, Nat.zero_add]; exact hcs1 j u hu) ⟨g2, 0, none⟩ 4 4 ((fourI x2).map (Value.int .u8)) rfl rfl (fun j u hu => by rw [add_plain, Nat.zero_add]; exact hcs2 j u hu) (u8_oneCell _) (by omega) (by decide) (by omega) ?_
    intro v' w' hown hgr
    rw [← List.map_append] at hown
    have hG := Grow.of_none hgr
    exact Flow.post_st ⟨hb1.trans (hG.mono hsz1), Nat.le_trans hsz1 hG.size⟩ hG rfl rfl (own_base hown hsz1)
  apply Flow.det_step
  · go_light
    intro w1 hC1
    simp only [Flow.fill, Flow.after, Flow.at_, List.nil_append, List.cons_append, List.getD_cons_zero, List.getD_cons_succ, det, forall_eq, List.setIfInBounds_toArray, List.set_cons_zero, List.set_cons_succ, List.drop, List.length]
    obtain ⟨hb1, hsz1⟩ := hC1
    obtain ⟨k0, k1, k2, k3, k4⟩ := box5 hb1
    go_wp2
    exact Flow.post_det ⟨hb1, hsz1⟩ (Grow.refl _) rfl rfl
  apply Flow.det_step
  · go_light
    intro w1 hC1
    simp only [Flow.fill, Flow.after, Flow.at_, List.nil_append, List.cons_append, List.getD_cons_zero, List.getD_cons_succ, det, forall_eq, List.setIfInBounds_toArray, List.set_cons_zero, List.set_cons_succ, List.drop, List.length]
    obtain ⟨hb1, hsz1⟩ := hC1
    obtain ⟨k0, k1, k2, k3, k4⟩ := box5 hb1
    go_wp2
    exact Flow.post_det ⟨hb1, hsz1⟩ (Grow.refl _) rfl rfl
  apply Flow.det_step
  · go_light
    intro w1 hC1
    simp only [Flow.fill, Flow.after, Flow.at_, List.nil_append, List.cons_append, List.getD_cons_zero, List.getD_cons_succ, det, forall_eq, List.setIfInBounds_toArray, List.set_cons_zero, List.set_cons_succ, List.drop, List.length]
    obtain ⟨hb1, hsz1⟩ := hC1
    obtain ⟨k0, k1, k2, k3, k4⟩ := box5 hb1
    go_wp2
    exact Flow.post_det ⟨hb1, hsz1⟩ (Grow.refl _) rfl rfl
  apply Flow.det_step
  · go_light
    intro w1 hC1
    simp only [Flow.fill, Flow.after, Flow.at_, List.nil_append, List.cons_append, List.getD_cons_zero, List.getD_cons_succ, det, forall_eq, List.setIfInBounds_toArray, List.set_cons_zero, List.set_cons_succ, List.drop, List.length]
    obtain ⟨hb1, hsz1⟩ := hC1
    obtain ⟨k0, k1, k2, k3, k4⟩ := box5 hb1
    go_wp2
    exact Flow.post_det ⟨hb1, hsz1⟩ (Grow.refl _) rfl rfl
  apply Flow.det_step
  · go_light
    intro w1 hC1
    simp only [Flow.fill, Flow.after, Flow.at_, List.nil_append, List.cons_append, List.getD_cons_zero, List.getD_cons_succ, det, forall_eq, List.setIfInBounds_toArray, List.set_cons_zero, List.set_cons_succ, List.drop, List.length]
    obtain ⟨hb1, hsz1⟩ := hC1
    obtain ⟨k0, k1, k2, k3, k4⟩ := box5 hb1
    go_wp2
    exact Flow.post_det ⟨hb1, hsz1⟩ (Grow.refl _) rfl rfl
  apply Flow.det_step
  · go_light
    intro w1 hC1
    simp only [Flow.fill, Flow.after, Flow.at_, List.nil_append, List.cons_append, List.getD_cons_zero, List.getD_cons_succ, det, forall_eq, List.setIfInBounds_toArray, List.set_cons_zero, List.set_cons_succ, List.drop, List.length]
    obtain ⟨hb1, hsz1⟩ := hC1
    obtain ⟨k0, k1, k2, k3, k4⟩ := box5 hb1
    go_wp2
    exact Flow.post_det ⟨hb1, hsz1⟩ (Grow.refl _) rfl rfl
  apply Flow.det_step
  · go_light
    intro w1 hC1
    simp only [Flow.fill, Flow.after, Flow.at_, List.nil_append, List.cons_append, List.getD_cons_zero, List.getD_cons_succ, det, forall_eq, List.setIfInBounds_toArray, List.set_cons_zero, List.set_cons_succ, List.drop, List.length]
    obtain ⟨hb1, hsz1⟩ := hC1
    obtain ⟨k0, k1, k2, k3, k4⟩ := box5 hb1
    go_wp2
    exact Flow.post_det ⟨hb1, hsz1⟩ (Grow.refl _) rfl rfl
  apply Flow.det_step
  · go_light
    intro w1 hC1
    simp only [Flow.fill, Flow.after, Flow.at_, List.nil_append, List.cons_append, List.getD_cons_zero, List.getD_cons_succ, det, forall_eq, List.setIfInBounds_toArray, List.set_cons_zero, List.set_cons_succ, List.drop, List.length]
    obtain ⟨hb1, hsz1⟩ := hC1
    obtain ⟨k0, k1, k2, k3, k4⟩ := box5 hb1
    go_wp2
    exact Flow.post_det ⟨hb1, hsz1⟩ (Grow.refl _) rfl rfl
  apply Flow.det_step
  · go_light
    intro w1 hC1
    simp only [Flow.fill, Flow.after, Flow.at_, List.nil_append, List.cons_append, List.getD_cons_zero, List.getD_cons_succ, det, forall_eq, List.setIfInBounds_toArray, List.set_cons_zero, List.set_cons_succ, List.drop, List.length]
    obtain ⟨hb1, hsz1⟩ := hC1
    obtain ⟨k0, k1, k2, k3, k4⟩ := box5 hb1
    go_wp2
    exact Flow.post_det ⟨hb1, hsz1⟩ (Grow.refl _) rfl rfl
  apply Flow.det_step
  · go_light
    intro w1 hC1
    simp only [Flow.fill, Flow.after, Flow.at_, List.nil_append, List.cons_append, List.getD_cons_zero, List.getD_cons_succ, det, forall_eq, List.setIfInBounds_toArray, List.set_cons_zero, List.set_cons_succ, List.drop, List.length]
    obtain ⟨hb1, hsz1⟩ := hC1
    obtain ⟨k0, k1, k2, k3, k4⟩ := box5 hb1
    go_wp2
    exact Flow.post_det ⟨hb1, hsz1⟩ (Grow.refl _) rfl rfl
  refine Flow.st_step (freshSt (fun g => .slice (some ⟨g, 0, none⟩) 6 6) ([x3, x4, (n : Int), 0, 0, 0].map (Value.int .u8))) ?_ ?_
  · go_light
    intro w1 hC1
    simp only [Flow.fill, Flow.after, Flow.at_, List.nil_append, List.cons_append, List.getD_cons_zero, List.getD_cons_succ, det, forall_eq, List.setIfInBounds_toArray, List.set_cons_zero, List.set_cons_succ, List.drop, List.length]
    obtain ⟨hb1, hsz1⟩ := hC1
    obtain ⟨k0, k1, k2, k3, k4⟩ := box5 hb1
    go_wp2
    exact Flow.post_st ⟨hb1.alloc hsz1 _, by simp; omega⟩ (Grow.alloc _ _) rfl rfl (fresh_alloc _ _ ([x3, x4, (n : Int), 0, 0, 0].map (Value.int .u8)) _ (by rfl))
  intro w1 hC1
  simp only [Flow.fill, Flow.after, Flow.at_, List.nil_append, List.cons_append, List.getD_cons_zero, List.getD_cons_succ, det, forall_eq, List.setIfInBounds_toArray, List.set_cons_zero, List.set_cons_succ, List.drop, List.length]
  rintro _ - _ - v18 hv18 _ ⟨g3, rfl, hg3, hcs3⟩
  obtain ⟨hb1, hsz1⟩ := hC1
  obtain ⟨k0, k1, k2, k3, k4⟩ := box5 hb1
  have hbw1 : Below w.heap.size w w1 := ((Below.refl _ _).alloc (Nat.le_refl _) _).trans (hb1.mono (by omega))
  obtain ⟨i0, hi0, hz0, hz1, hz2⟩ := info_parts u8info
  have hb3 : Byt [x3, x4, (n : Int), 0, 0, 0] := by intro y hy; simp at hy; omega
  have hr3 := RB.of_cells hg3 hb3 hcs3
  have hl0 := Lib.hid h.len
  clear hcs3
  refine wpList_append_reads _ rfl (.tmp 18) (.tmp 29) _ rfl (w.heap.size + 1) 5 i0 _ 1 1 Try.underlying23 hi0 hz0 hz1 hz2 rfl (by omega) v18 8 _ rfl hv18 _ (some ⟨g3, 0, none⟩) 6 6 _ rfl hr3.1 (u8_oneCell _) (by decide) (by omega) hsz1 ?_
  intro v30 w2 hown2 hgr2 hat2
  have hb2 : Below (w.heap.size + 1) w1 w2 := (Below.refl _ _).grown hgr2 hsz1 (fun k hk => (hv18.lt k hk).1)
  have k4' : w2.cell? ⟨w.heap.size, 4, none⟩ = some (Value.slice p n c) := (hb2.cell (p := ⟨w.heap.size, 4, none⟩) (Nat.lt_succ_self _)).trans k4
  have hp2 := (h.below' hbw1 (Nat.le_refl _)).below' hb2 (by omega)
  rw [← List.map_append] at hown2
  clear k0 k1 k2 k3 k4 hr3
  have hsz2 := hb2.size
  go_wp2_with (at_builtin; refine wpList_append_reads _ rfl (.tmp 31) (.tmp 33) _ rfl (w.heap.size + 1) 5 i0 _ 1 1 Try.underlying23 hi0 hz0 hz1 hz2 rfl (by omega) v30 (8 + 6) _ rfl hown2 _ p n c _ rfl hp2.1 (u8_oneCell _) (by simp only [maxLen]; omega) (by omega) (by omega) ?_; intro v34 w3 hown3 hgr3 hat3; obtain ⟨g, cap, ev, hgb, hglt⟩ := hown3.form (by omega); rw [ev] at hown3 ⊢)
  rw [← List.map_append] at hown3
  have hG : fourI x1 ++ fourI x2 ++ [x3, x4, (n : Int), 0, 0, 0] ++ ds = headI x1 x2 x3 x4 ds.length ++ [0, 0] ++ ds := by rw [hl0.out]; rfl
  rw [hG, show 8 + 6 + n = 14 + n by omega] at hown3
  have hb3' : Below (w.heap.size + 1) w2 w3 := (Below.refl _ _).grown hgr3 (by omega) (fun k hk => (hown2.lt k hk).1)
  have hbG : Byt (headI x1 x2 x3 x4 ds.length ++ [0, 0] ++ ds) := by
    rw [← hG]
    exact (((fourI_byt x1 hx1.1 hx1.2).append (fourI_byt x2 hx2.1 hx2.2)).append hb3).append h.2
  clear hG ev hat2 hat3 hown2 hgr2 hgr3 hb3 hp2 k4' hv18
  have hrG := RB.of_own hown3 hbG
  refine (sum_any _ _ _ _ _ hrG (by unfold maxLen; omega)).mono ?_
  rintro e w4 ⟨rfl, rfl⟩
  have hs := sum_range _ hbG
  obtain ⟨G, hG⟩ : ∃ G, G = headI x1 x2 x3 x4 ds.length ++ [0, 0] ++ ds := ⟨_, rfl⟩
  obtain ⟨S, hS⟩ : ∃ S, S = sumI (headI x1 x2 x3 x4 ds.length ++ [0, 0] ++ ds) := ⟨_, rfl⟩
  rw [← hS] at hs ⊢
  have hc12 := hown3.cellAt 12 (by omega)
  have hc13 := hown3.cellAt 13 (by omega)
  have e12 : w3.cell? ⟨g, 12, none⟩ = some (.int .u8 0) := hc12
  have e13 : w3.cell? ⟨g, 13, none⟩ = some (.int .u8 0) := hc13
  have f12 := hown3.frozenAt 12
  have f13 := hown3.frozenAt 13
  have s1 := hown3.stored 12 (.int .u8 (S / 256))
  have s2 := s1.1.stored 13 (.int .u8 (S % 256))
  have hE : ((headI x1 x2 x3 x4 ds.length ++ [0, 0] ++ ds).map (Value.int .u8)).set 12 (.int .u8 (S / 256)) = ((headI x1 x2 x3 x4 ds.length ++ [S / 256, 0] ++ ds).map (Value.int .u8)) := rfl
  have hE2 : ((headI x1 x2 x3 x4 ds.length ++ [S / 256, 0] ++ ds).map (Value.int .u8)).set 13 (.int .u8 (S % 256)) = ((encI x1 x2 x3 x4 ds).map (Value.int .u8)) := by rw [hS]; rfl
  rw [hE, hE2] at s2
  have hbE : Byt (encI x1 x2 x3 x4 ds) := by
    intro y hy
    unfold encI at hy
    rw [← hS] at hy
    simp only [List.mem_append] at hy
    rcases hy with (hy | hy) | hy
    · exact hbG y (by simp [hy])
    · simp at hy; omega
    · exact h.2 y hy
  have hrE := RB.of_own s2.1 hbE
  have hbE2 : Below (w.heap.size + 1) w3 ((w3.setCell ⟨g, 12, none⟩ (.int .u8 (S / 256))).setCell ⟨g, 13, none⟩ (.int .u8 (S % 256))) := ((Below.refl _ _).setCell (by exact hgb) _).setCell (by exact hgb) _
  have HS := Lib.hid hS
  have hsz3 := hb3'.size
  have hszE := hbE2.size
  clear hS hc12 hc13 s1 s2 hE hE2 hrG hbG hown3
  have q1 : S / 256 % 256 = S / 256 := by omega
  have hnn : (13 : Int) < 14 + (n : Int) := by omega
  have hnn2 : (12 : Int) < 14 + (n : Int) := by omega
  go_wp2_with fail
  refine (clone_any _ _ _ (encI x1 x2 x3 x4 ds) _ _ hrE (Nat.le_refl _) (by omega)).mono ?_
  rintro e w5 ⟨v, rfl, hown5, hb5⟩
  go_wp2
  go_ret2
  obtain ⟨A, c', rfl, _⟩ := own_shape hown5
  exact ⟨A, _, c', rfl, RB.of_own hown5 hbE, (((hbw1.trans (hb2.mono (by omega))).trans (hb3'.mono (by omega))).trans (hbE2.mono (by omega))).trans (hb5.mono (by omega)), FreshV.own hown5 (by omega)⟩
/-- The law SegWritten. -/
theorem law_written (x1 x2 x3 x4 : Int) (p : Option Addr) (n c : Nat) (ds : List Int) (w : World) (hx1 : 0 ≤ x1 ∧ x1 < 4294967296) (hx2 : 0 ≤ x2 ∧ x2 < 4294967296) (h3 : -9223372036854775808 ≤ x3 ∧ x3 ≤ 9223372036854775807) (h4 : -9223372036854775808 ≤ x4 ∧ x4 ≤ 9223372036854775807) (hn : n ≤ 140737488355328) (h : RB w w.heap.size p n ds) :
    Calls Try.prog 4 #[.agg #[.int .u32 x1, .int .u32 x2, .int .i64 x3, .int .i64 x4, .slice p n c]] w fun e w' => e = .returned (.bool true) ∧ Below w.heap.size w w' := by
  have two : ∀ (ys : List Int), (∀ W, Below w.heap.size w W → w.heap.size + 1 ≤ W.heap.size → Calls Try.prog 14 #[.agg #[.int .u32 x1, .int .u32 x2, .int .i64 x3, .int .i64 x4, .slice p n c]] W fun e w' => ∃ A m c', e = .returned (.tuple #[.slice A m c', .int .i64 (checkI x3 x4 n)]) ∧ RB w' w'.heap.size A m ys ∧ Below W.heap.size W w') →
      (∀ W, Below w.heap.size w W → w.heap.size + 1 ≤ W.heap.size → Calls Try.prog 15 #[.agg #[.int .u32 x1, .int .u32 x2, .int .i64 x3, .int .i64 x4, .slice p n c]] W fun e w' => ∃ A m c', e = .returned (.tuple #[.slice A m c', .int .i64 (checkI x3 x4 n)]) ∧ RB w' w'.heap.size A m ys ∧ Below W.heap.size W w') →
      Calls Try.prog 4 #[.agg #[.int .u32 x1, .int .u32 x2, .int .i64 x3, .int .i64 x4, .slice p n c]] w fun e w' => e = .returned (.bool true) ∧ Below w.heap.size w w' := by
    intro ys c14 c15
    have C14 := Lib.hid c14
    have C15 := Lib.hid c15
    clear c14 c15
    go_enter Try.func4, Try.ntmps4
    go_wp2_with fail
    refine (C14.out _ ((Below.refl _ _).alloc (Nat.le_refl _) _) (by simp)).mono ?_
    rintro e w1 ⟨A1, m1, c1, rfl, hr1, hb1⟩
    simp only [World.size_alloc] at hb1
    obtain ⟨k0, k1, k2, k3, k4⟩ := box5 hb1
    have hbw1 : Below w.heap.size w w1 := ((Below.refl _ _).alloc (Nat.le_refl _) _).trans (hb1.mono (by omega))
    have hs1 : w.heap.size + 1 ≤ w1.heap.size := by have := hb1.size; simpa using this
    go_wp2_with fail
    refine (C15.out _ hbw1 hs1).mono ?_
    rintro e w2 ⟨A2, m2, c2, rfl, hr2, hb2⟩
    have hr1' := hr1.below' hb2 (Nat.le_refl _)
    have hb12 : Below (w.heap.size + 1) (w.alloc (.cells #[.int .u32 x1, .int .u32 x2, .int .i64 x3, .int .i64 x4, .slice p n c] 25)) w2 := hb1.trans (hb2.mono hs1)
    have hbw2 : Below w.heap.size w w2 := hbw1.trans (hb2.mono (by omega))
    have hs2 : w.heap.size + 1 ≤ w2.heap.size := Nat.le_trans hs1 hb2.size
    clear k0 k1 k2 k3 k4
    obtain ⟨k0, k1, k2, k3, k4⟩ := box5 hb12
    have hz1 := hr1'.more (B' := w2.heap.size) hb2.size
    have hp := h.below' hbw2 (Nat.le_refl _)
    go_wp2_with fail
    refine wp_region_near w2.heap.size (by kernel_rfl) (by kernel_rfl) ?_
    have hsz := hb2.size
    have k0n : w.heap.size < w2.heap.size := by omega
    repeat (go_big_quiet_step (first
      | (go_at_call 16; exact Calls.near (Near.size _) (check_any _ _ _ _ _ _ _ _))
      | (go_at_call 17; exact Calls.near (Near.size _) (segFault_any _ _ _ _ _ _ _ _ h3 h4))
      | (go_at_call 18; exact Calls.near_same (sameBytes_any _ _ _ _ _ _ ys ys _ _ _ (hz1.below' (Near.prop _) (Nat.le_refl _)) (hr2.below' (Near.prop _) (Nat.le_refl _))))
      | (go_at_call 19; exact Calls.near_same (sum_any _ _ _ ds _ ((hp.below' (Near.prop _) (by omega)).more (Nat.le_trans (by omega) (Near.size _))) (by unfold maxLen; omega)))
      | (go_at_call 20; exact Calls.near (Near.size _) (segSum_any _ _ _ ds _ ((hp.below' (Near.prop _) (by omega)).more (Nat.le_trans (by omega) (Near.size _))) hn))))
    refine wpQuiet_nil ?_
    intro w3 hb3
    go_wp2
    go_ret
    exact ⟨rfl, hbw2.trans (hb3.mono (by omega))⟩
  by_cases hck : checkI x3 x4 n = 0
  · have hk : 0 ≤ x3 ∧ x3 ≤ 15 ∧ 0 ≤ x4 ∧ x4 ≤ 255 ∧ n ≤ 32 := by
      unfold checkI at hck
      split at hck
      · cases hck
      · split at hck
        · cases hck
        · omega
    rw [hck] at two
    exact two (encI x1 x2 x3 x4 ds) (fun W hW hs => (encode_ok x1 x2 x3 x4 p n c ds W hx1 hx2 ⟨hk.1, hk.2.1⟩ ⟨hk.2.2.1, hk.2.2.2.1⟩ hk.2.2.2.2 ((h.below' hW (Nat.le_refl _)).more (by omega))).mono fun e w' ⟨A, m, c', he, hr, hb, _⟩ => ⟨A, m, c', he, hr, hb⟩)
      (fun W hW hs => segBytes_ok x1 x2 x3 x4 p n c ds W hx1 hx2 ⟨hk.1, hk.2.1⟩ ⟨hk.2.2.1, hk.2.2.2.1⟩ hk.2.2.2.2 ((h.below' hW (Nat.le_refl _)).more (by omega)))
  · have hck' : (checkI x3 x4 n != 0) = true := by simpa using hck
    exact two [] (fun W _ _ => (encode_bad x1 x2 x3 x4 p n c W hck').mono fun e w' ⟨he, hb⟩ => ⟨none, 0, 0, he, ⟨Reads.none_, fun x hx => by simp at hx⟩, hb⟩)
      (fun W _ _ => (segBytes_bad x1 x2 x3 x4 p n c W h3 h4 hck').mono fun e w' ⟨he, hb⟩ => ⟨none, 0, 0, he, ⟨Reads.none_, fun x hx => by simp at hx⟩, hb⟩)
end Go.Proofs.Ythlhjaacjhlkhaa
