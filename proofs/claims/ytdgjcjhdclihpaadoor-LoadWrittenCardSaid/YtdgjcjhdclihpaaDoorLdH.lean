/- The law ringlaw4.LoadWritten f3 (printed by mkLdH.py). -/
import Derived.Test.YtdgjcjhdclihpaaDoorLdE
import Derived.Test.YtdgjcjhdclihpaaDoorLdF
import Derived.Test.YtdgjcjhdclihpaaDoorLdG
namespace Go.Proofs.YtdgjcjhdclihpaaDoor
open Go.RowKit
set_option maxHeartbeats 400000
set_option linter.unusedVariables false
set_option linter.unusedSimpArgs false
theorem RP.grow {w w' : World} {n : Nat} {A : Option Addr} {gs : List Pg} (h : RP w w.heap.size A n gs) (hb : Below w.heap.size w w') : RP w' w'.heap.size A n gs := by
  have h1 := h.below' hb (Nat.le_refl _)
  exact ⟨h1.1.more hb.size, h1.2.1, fun g hg => ⟨(h1.2.2 g hg).1.more hb.size, (h1.2.2 g hg).2⟩⟩
/-- An image whose pages say ks. -/
def imSt (e : Int) (ks : List Key) : St := ⟨fun v w => ∃ A n c gs, v = .agg #[.int .u32 e, .slice A n c] ∧ gs.map Pg.key = ks ∧ RP w w.heap.size A n gs ∧ n ≤ 9223372036854775807,
  fun _ _ _ h hg => by
    obtain ⟨A, n, c, gs, h1, h2, h3, h4⟩ := h
    exact ⟨A, n, c, gs, h1, h2, h3.grow hg, h4⟩⟩
set_option maxHeartbeats 8000000 in
set_option maxRecDepth 100000 in
theorem law_loadWritten (e : Int) (A : Option Addr) (n c : Nat) (gs : List Pg) (w : World) (h : RP w w.heap.size A n gs) (he : 0 ≤ e ∧ e < 4294967296) (hbig : Big n gs) :
    Calls Tryd.prog 3 #[.agg #[.int .u32 e, .slice A n c]] w fun er w' => er = .returned (.bool true) ∧ Below w.heap.size w w' := by
  have hb0 : Below w.heap.size w (w.alloc (.cells #[.int .u32 e, .slice A n c] 25)) := (Below.refl _ _).alloc (Nat.le_refl _) _
  have hbox0 : Blk (w.alloc (.cells #[.int .u32 e, .slice A n c] 25)) w.heap.size #[.int .u32 e, .slice A n c] 25 := Blk.new w _ 25
  have hfit := hbig.fit
  have hn9 : n ≤ 9223372036854775807 := by omega
  obtain ⟨gc, hgc⟩ : ∃ g, w.heap.size = g := ⟨_, rfl⟩
  have HRP : Hid (∀ W, Below gc w W → RP W gc A n gs) := Lib.hid (fun W hb => by rw [hgc] at h; exact h.below' hb (Nat.le_refl _))
  have HBIG := Lib.hid hbig
  have HE := Lib.hid he
  have HGC := Lib.hid hgc
  rw [hgc] at hb0 hbox0
  have HFA := Lib.hid (file_any e A n c gs (w.alloc (.cells #[.int .u32 e, .slice A n c] 25)) gc (HRP.out _ hb0) (by have := hb0.size; omega) he hbig)
  clear h hbig
  go_enter Tryd.func3, Tryd.ntmps3
  go_wp2_with fail
  refine HFA.out.mono ?_
  rintro er w1 ⟨A1, n1, c1, bs, er1, rfl, hf1, hr1, hb1⟩
  have HB1 : Hid (Below gc w w1) := Lib.hid (hb0.trans (hb1.mono (by have := hb0.size; omega)))
  have hbox1 := hbox0.fr (Fr.of_grow hb1) (fun h => h)
  have hc1 := hbox1.cell
  have hl1 := hbox1.lt
  have hs1 : gc ≤ w1.heap.size := by have := HB1.out.size; rw [HGC.out] at this; exact this
  have HFB := Lib.hid (loadBytes_any e A n c gs w1 gc (HRP.out _ HB1.out) (by omega) HE.out HBIG.out)
  have HF1 := Lib.hid hf1
  have HR1 := Lib.hid hr1
  clear hb0 hbox0 hb1 hf1 hr1 HFA hgc
  go_wp2_with fail
  refine HFB.out.mono ?_
  rintro er w2 ⟨A2, n2, c2, bs2, er2, rfl, hf2, hr2, hb2⟩
  obtain ⟨rfl, rfl⟩ := HF1.out.unique hf2
  have HB2 : Hid (Below gc w w2) := Lib.hid (HB1.out.trans (hb2.mono (by omega)))
  have hbox2 := hbox1.fr (Fr.of_grow hb2) (fun h => h)
  have hc2 := hbox2.cell
  have hc20 := hc2 0
  have hc21 := hc2 1
  dsimp at hc20 hc21
  have hl2 := hbox2.lt
  have hs2 : gc ≤ w2.heap.size := by have := HB2.out.size; rw [HGC.out] at this; exact this
  have hs12 := hb2.size
  have HR1' := Lib.hid ((HR1.out.below' hb2 (Nat.le_refl _)).more hb2.size)
  have HR2 := Lib.hid hr2
  have hbl : bs.length ≤ 512 := hf2.len
  obtain ⟨x0, hx0, _⟩ := hf2
  have HX0 := Lib.hid hx0
  have hn1 : n1 ≤ 512 := by have := HR1.out.len; omega
  have hn2 : n2 ≤ 512 := by have := HR2.out.len; omega
  obtain ⟨wS, hwS⟩ : ∃ wS, wS = w2 := ⟨_, rfl⟩
  rw [← hwS] at HR1' HR2 HB2 hc20 hc21 hl2 hs2 ⊢
  have hxx : (x0 == x0) = true := by simp
  have hee : (er1 == er1) = true := by simp
  have hss : (sumS bs == sumS bs) = true := by simp
  clear hbox1 hbox2 hc1 hl1 hb2 hr2 hx0 HF1 HR1 hc2 hwS HFB hs12
  go_wp2_with fail
  refine wp_region_walk (fun w' => Below wS.heap.size wS w') [[], [(17, 0)], [], [(19, 2)], [(18, 1), (20, 3)], [(21, 4)], [(22, 5)], [(23, 6), (22, 5)], [(22, 5)], [(25, 8), (22, 5)], [(24, 7), (26, 9), (22, 5)], [(22, 5), (27, 10)], [(28, 11)], [(29, 12)], [(29, 12)], [(30, 13), (31, 14), (29, 12)], [(29, 12), (32, 15)], [(33, 16)], [(34, 17)], [(34, 17)], [(35, 18), (36, 19), (34, 17)], [(34, 17), (37, 20)], [(38, 21)], [(39, 22)], [(40, 23), (39, 22)], [(39, 22)], [(42, 25), (39, 22)], [(41, 24), (43, 26), (39, 22)], [(39, 22), (44, 27)]]
    [(17, 0), (18, 1), (19, 2), (20, 3), (21, 4), (22, 5), (23, 6), (24, 7), (25, 8), (26, 9), (27, 10), (28, 11), (29, 12), (30, 13), (31, 14), (32, 15), (33, 16), (34, 17), (35, 18), (36, 19), (37, 20), (38, 21), (39, 22), (40, 23), (41, 24), (42, 25), (43, 26), (44, 27), (45, 28)] (by kernel_rfl) (by kernel_rfl) (by kernel_rfl) (Below.refl _ _).drew ?_
  apply Flow.det_step
  · go_light
    intro w1 hC1
    simp only [Flow.fill, Flow.after, Flow.at_, List.nil_append, List.cons_append, List.getD_cons_zero, List.getD_cons_succ, det, forall_eq, List.setIfInBounds_toArray, List.set_cons_zero, List.set_cons_succ, List.drop, List.length]
    have hb3 := hC1
    have s3 := hb3.size; have k0 := (hb3.cell (p := ⟨gc, 0, none⟩) hl2).trans hc20; have k1 := (hb3.cell (p := ⟨gc, 1, none⟩) hl2).trans hc21
    go_wp2
    exact Flow.post_det hb3 (Grow.refl _) rfl rfl
  apply Flow.det_step
  · go_light
    intro w1 hC1
    simp only [Flow.fill, Flow.after, Flow.at_, List.nil_append, List.cons_append, List.getD_cons_zero, List.getD_cons_succ, det, forall_eq, List.setIfInBounds_toArray, List.set_cons_zero, List.set_cons_succ, List.drop, List.length]
    have hb3 := hC1
    have s3 := hb3.size; have k0 := (hb3.cell (p := ⟨gc, 0, none⟩) hl2).trans hc20; have k1 := (hb3.cell (p := ⟨gc, 1, none⟩) hl2).trans hc21
    go_wp2_with (go_at_call 7; refine (check_any e A n c gs w1 gc (HRP.out w1 (HB2.out.trans (hb3.mono hs2))) (by omega) HE.out hn9).mono ?_; rintro e' w8 ⟨x, rfl, hx, hb8⟩)
    obtain rfl : x0 = x := HX0.out.unique hx
    exact Flow.post_det (hb3.trans (hb8.mono s3)) hb8 rfl rfl
  apply Flow.det_step
  · go_light
    intro w1 hC1
    simp only [Flow.fill, Flow.after, Flow.at_, List.nil_append, List.cons_append, List.getD_cons_zero, List.getD_cons_succ, det, forall_eq, List.setIfInBounds_toArray, List.set_cons_zero, List.set_cons_succ, List.drop, List.length]
    have hb3 := hC1
    have s3 := hb3.size; have k0 := (hb3.cell (p := ⟨gc, 0, none⟩) hl2).trans hc20; have k1 := (hb3.cell (p := ⟨gc, 1, none⟩) hl2).trans hc21
    go_wp2
    exact Flow.post_det hb3 (Grow.refl _) rfl rfl
  apply Flow.det_step
  · go_light
    intro w1 hC1
    simp only [Flow.fill, Flow.after, Flow.at_, List.nil_append, List.cons_append, List.getD_cons_zero, List.getD_cons_succ, det, forall_eq, List.setIfInBounds_toArray, List.set_cons_zero, List.set_cons_succ, List.drop, List.length]
    have hb3 := hC1
    have s3 := hb3.size; have k0 := (hb3.cell (p := ⟨gc, 0, none⟩) hl2).trans hc20; have k1 := (hb3.cell (p := ⟨gc, 1, none⟩) hl2).trans hc21
    go_wp2_with (go_at_call 8; refine (loadFault_any e A n c gs w1 gc (HRP.out w1 (HB2.out.trans (hb3.mono hs2))) (by omega) HE.out hn9).mono ?_; rintro e' w8 ⟨x, rfl, hx, hb8⟩)
    obtain rfl : x0 = x := HX0.out.unique hx
    exact Flow.post_det (hb3.trans (hb8.mono s3)) hb8 rfl rfl
  apply Flow.det_step
  · go_light
    intro w1 hC1
    simp only [Flow.fill, Flow.after, Flow.at_, List.nil_append, List.cons_append, List.getD_cons_zero, List.getD_cons_succ, det, forall_eq, List.setIfInBounds_toArray, List.set_cons_zero, List.set_cons_succ, List.drop, List.length]
    have hb3 := hC1
    have s3 := hb3.size; have k0 := (hb3.cell (p := ⟨gc, 0, none⟩) hl2).trans hc20; have k1 := (hb3.cell (p := ⟨gc, 1, none⟩) hl2).trans hc21
    go_wp2
    exact Flow.post_det hb3 (Grow.refl _) rfl rfl
  apply Flow.det_step
  · go_light
    intro w1 hC1
    simp only [Flow.fill, Flow.after, Flow.at_, List.nil_append, List.cons_append, List.getD_cons_zero, List.getD_cons_succ, det, forall_eq, List.setIfInBounds_toArray, List.set_cons_zero, List.set_cons_succ, List.drop, List.length]
    have hb3 := hC1
    have s3 := hb3.size; have k0 := (hb3.cell (p := ⟨gc, 0, none⟩) hl2).trans hc20; have k1 := (hb3.cell (p := ⟨gc, 1, none⟩) hl2).trans hc21
    go_wp2
    exact Flow.post_det hb3 (Grow.refl _) rfl rfl
  apply Flow.det_step
  · go_light
    intro w1 hC1
    simp only [Flow.fill, Flow.after, Flow.at_, List.nil_append, List.cons_append, List.getD_cons_zero, List.getD_cons_succ, det, forall_eq, List.setIfInBounds_toArray, List.set_cons_zero, List.set_cons_succ, List.drop, List.length]
    have hb3 := hC1
    have s3 := hb3.size; have k0 := (hb3.cell (p := ⟨gc, 0, none⟩) hl2).trans hc20; have k1 := (hb3.cell (p := ⟨gc, 1, none⟩) hl2).trans hc21
    go_wp2
    exact Flow.post_det hb3 (Grow.refl _) rfl rfl
  refine Flow.st_step (imSt e (gs.map Pg.keyT)) ?_ ?_
  · go_light
    intro w1 hC1
    simp only [Flow.fill, Flow.after, Flow.at_, List.nil_append, List.cons_append, List.getD_cons_zero, List.getD_cons_succ, det, forall_eq, List.setIfInBounds_toArray, List.set_cons_zero, List.set_cons_succ, List.drop, List.length]
    have hb3 := hC1
    have s3 := hb3.size; have k0 := (hb3.cell (p := ⟨gc, 0, none⟩) hl2).trans hc20; have k1 := (hb3.cell (p := ⟨gc, 1, none⟩) hl2).trans hc21
    go_wp2_with (go_at_call 10; refine (trim_any e A n c gs w1 gc (HRP.out w1 (HB2.out.trans (hb3.mono hs2))) (by omega) HBIG.out).mono ?_; rintro e' w8 ⟨A8, n8, c8, gs8, rfl, hl8, hk8, hp8, hb8⟩)
    exact Flow.post_st (hb3.trans (hb8.mono s3)) hb8 rfl rfl ⟨A8, n8, c8, gs8, rfl, hk8, hp8.rp hl8, by have := congrArg List.length hk8; simp at this; have := (HRP.out w1 (HB2.out.trans (hb3.mono hs2))).2.1; omega⟩
  apply Flow.det_step
  · go_light
    intro w1 hC1
    simp only [Flow.fill, Flow.after, Flow.at_, List.nil_append, List.cons_append, List.getD_cons_zero, List.getD_cons_succ, det, forall_eq, List.setIfInBounds_toArray, List.set_cons_zero, List.set_cons_succ, List.drop, List.length]
    have hb3 := hC1
    have s3 := hb3.size; have k0 := (hb3.cell (p := ⟨gc, 0, none⟩) hl2).trans hc20; have k1 := (hb3.cell (p := ⟨gc, 1, none⟩) hl2).trans hc21
    go_wp2
    exact Flow.post_det hb3 (Grow.refl _) rfl rfl
  refine Flow.st_step (imSt e (gs.map Pg.keyT)) ?_ ?_
  · go_light
    intro w1 hC1
    simp only [Flow.fill, Flow.after, Flow.at_, List.nil_append, List.cons_append, List.getD_cons_zero, List.getD_cons_succ, det, forall_eq, List.setIfInBounds_toArray, List.set_cons_zero, List.set_cons_succ, List.drop, List.length]
    have hb3 := hC1
    have s3 := hb3.size; have k0 := (hb3.cell (p := ⟨gc, 0, none⟩) hl2).trans hc20; have k1 := (hb3.cell (p := ⟨gc, 1, none⟩) hl2).trans hc21
    go_wp2_with (go_at_call 11; refine (loadTrim_any e A n c gs w1 gc (HRP.out w1 (HB2.out.trans (hb3.mono hs2))) (by omega) HBIG.out).mono ?_; rintro e' w8 ⟨A8, n8, c8, gs8, rfl, hl8, hk8, hp8, hb8⟩)
    exact Flow.post_st (hb3.trans (hb8.mono s3)) hb8 rfl rfl ⟨A8, n8, c8, gs8, rfl, hk8, hp8.rp hl8, by have := congrArg List.length hk8; simp at this; have := (HRP.out w1 (HB2.out.trans (hb3.mono hs2))).2.1; omega⟩
  apply Flow.det_step
  · go_light
    intro w1 hC1
    simp only [Flow.fill, Flow.after, Flow.at_, List.nil_append, List.cons_append, List.getD_cons_zero, List.getD_cons_succ, det, forall_eq, List.setIfInBounds_toArray, List.set_cons_zero, List.set_cons_succ, List.drop, List.length]
    rintro _ ⟨A8, n8, c8, gs8, rfl, hk8, hp8, hn8⟩ _ ⟨A9, n9, c9, gs9, rfl, hk9, hp9, hn9'⟩
    have hb3 := hC1
    have s3 := hb3.size; have k0 := (hb3.cell (p := ⟨gc, 0, none⟩) hl2).trans hc20; have k1 := (hb3.cell (p := ⟨gc, 1, none⟩) hl2).trans hc21
    go_wp2_with (go_at_call 9; refine (sameImage_same e A8 A9 n8 c8 n9 c9 w1.heap.size w1.heap.size gs8 gs9 w1 hp8 hp9 (Nat.le_refl _) (Nat.le_refl _) (hk8.trans hk9.symm) hn8).mono ?_; rintro e' w8 ⟨rfl, hb8⟩)
    exact Flow.post_det (hb3.trans (hb8.mono s3)) hb8 rfl rfl
  apply Flow.det_step
  · go_light
    intro w1 hC1
    simp only [Flow.fill, Flow.after, Flow.at_, List.nil_append, List.cons_append, List.getD_cons_zero, List.getD_cons_succ, det, forall_eq, List.setIfInBounds_toArray, List.set_cons_zero, List.set_cons_succ, List.drop, List.length]
    have hb3 := hC1
    have s3 := hb3.size; have k0 := (hb3.cell (p := ⟨gc, 0, none⟩) hl2).trans hc20; have k1 := (hb3.cell (p := ⟨gc, 1, none⟩) hl2).trans hc21
    go_wp2
    exact Flow.post_det hb3 (Grow.refl _) rfl rfl
  apply Flow.det_step
  · go_light
    intro w1 hC1
    simp only [Flow.fill, Flow.after, Flow.at_, List.nil_append, List.cons_append, List.getD_cons_zero, List.getD_cons_succ, det, forall_eq, List.setIfInBounds_toArray, List.set_cons_zero, List.set_cons_succ, List.drop, List.length]
    have hb3 := hC1
    have s3 := hb3.size; have k0 := (hb3.cell (p := ⟨gc, 0, none⟩) hl2).trans hc20; have k1 := (hb3.cell (p := ⟨gc, 1, none⟩) hl2).trans hc21
    go_wp2
    exact Flow.post_det hb3 (Grow.refl _) rfl rfl
  apply Flow.det_step
  · go_light
    intro w1 hC1
    simp only [Flow.fill, Flow.after, Flow.at_, List.nil_append, List.cons_append, List.getD_cons_zero, List.getD_cons_succ, det, forall_eq, List.setIfInBounds_toArray, List.set_cons_zero, List.set_cons_succ, List.drop, List.length]
    have hb3 := hC1
    have s3 := hb3.size; have k0 := (hb3.cell (p := ⟨gc, 0, none⟩) hl2).trans hc20; have k1 := (hb3.cell (p := ⟨gc, 1, none⟩) hl2).trans hc21
    go_wp2
    exact Flow.post_det hb3 (Grow.refl _) rfl rfl
  apply Flow.det_step
  · go_light
    intro w1 hC1
    simp only [Flow.fill, Flow.after, Flow.at_, List.nil_append, List.cons_append, List.getD_cons_zero, List.getD_cons_succ, det, forall_eq, List.setIfInBounds_toArray, List.set_cons_zero, List.set_cons_succ, List.drop, List.length]
    have hb3 := hC1
    have s3 := hb3.size; have k0 := (hb3.cell (p := ⟨gc, 0, none⟩) hl2).trans hc20; have k1 := (hb3.cell (p := ⟨gc, 1, none⟩) hl2).trans hc21
    go_wp2
    exact Flow.post_det hb3 (Grow.refl _) rfl rfl
  apply Flow.det_step
  · go_light
    intro w1 hC1
    simp only [Flow.fill, Flow.after, Flow.at_, List.nil_append, List.cons_append, List.getD_cons_zero, List.getD_cons_succ, det, forall_eq, List.setIfInBounds_toArray, List.set_cons_zero, List.set_cons_succ, List.drop, List.length]
    have hb3 := hC1
    have s3 := hb3.size; have k0 := (hb3.cell (p := ⟨gc, 0, none⟩) hl2).trans hc20; have k1 := (hb3.cell (p := ⟨gc, 1, none⟩) hl2).trans hc21
    go_wp2_with (go_at_call 12; refine (sameBytes_same A1 A2 n1 c1 n2 c2 bs w1 wS.heap.size wS.heap.size (HR1'.out.below' hb3 (Nat.le_refl _)) (HR2.out.below' hb3 (Nat.le_refl _))).mono ?_; rintro e' w8 ⟨rfl, hb8⟩)
    exact Flow.post_det (hb3.trans (hb8.mono s3)) hb8 rfl rfl
  apply Flow.det_step
  · go_light
    intro w1 hC1
    simp only [Flow.fill, Flow.after, Flow.at_, List.nil_append, List.cons_append, List.getD_cons_zero, List.getD_cons_succ, det, forall_eq, List.setIfInBounds_toArray, List.set_cons_zero, List.set_cons_succ, List.drop, List.length]
    have hb3 := hC1
    have s3 := hb3.size; have k0 := (hb3.cell (p := ⟨gc, 0, none⟩) hl2).trans hc20; have k1 := (hb3.cell (p := ⟨gc, 1, none⟩) hl2).trans hc21
    go_wp2
    exact Flow.post_det hb3 (Grow.refl _) rfl rfl
  apply Flow.det_step
  · go_light
    intro w1 hC1
    simp only [Flow.fill, Flow.after, Flow.at_, List.nil_append, List.cons_append, List.getD_cons_zero, List.getD_cons_succ, det, forall_eq, List.setIfInBounds_toArray, List.set_cons_zero, List.set_cons_succ, List.drop, List.length]
    have hb3 := hC1
    have s3 := hb3.size; have k0 := (hb3.cell (p := ⟨gc, 0, none⟩) hl2).trans hc20; have k1 := (hb3.cell (p := ⟨gc, 1, none⟩) hl2).trans hc21
    go_wp2
    exact Flow.post_det hb3 (Grow.refl _) rfl rfl
  apply Flow.det_step
  · go_light
    intro w1 hC1
    simp only [Flow.fill, Flow.after, Flow.at_, List.nil_append, List.cons_append, List.getD_cons_zero, List.getD_cons_succ, det, forall_eq, List.setIfInBounds_toArray, List.set_cons_zero, List.set_cons_succ, List.drop, List.length]
    have hb3 := hC1
    have s3 := hb3.size; have k0 := (hb3.cell (p := ⟨gc, 0, none⟩) hl2).trans hc20; have k1 := (hb3.cell (p := ⟨gc, 1, none⟩) hl2).trans hc21
    go_wp2
    exact Flow.post_det hb3 (Grow.refl _) rfl rfl
  apply Flow.det_step
  · go_light
    intro w1 hC1
    simp only [Flow.fill, Flow.after, Flow.at_, List.nil_append, List.cons_append, List.getD_cons_zero, List.getD_cons_succ, det, forall_eq, List.setIfInBounds_toArray, List.set_cons_zero, List.set_cons_succ, List.drop, List.length]
    have hb3 := hC1
    have s3 := hb3.size; have k0 := (hb3.cell (p := ⟨gc, 0, none⟩) hl2).trans hc20; have k1 := (hb3.cell (p := ⟨gc, 1, none⟩) hl2).trans hc21
    go_wp2
    exact Flow.post_det hb3 (Grow.refl _) rfl rfl
  apply Flow.det_step
  · go_light
    intro w1 hC1
    simp only [Flow.fill, Flow.after, Flow.at_, List.nil_append, List.cons_append, List.getD_cons_zero, List.getD_cons_succ, det, forall_eq, List.setIfInBounds_toArray, List.set_cons_zero, List.set_cons_succ, List.drop, List.length]
    have hb3 := hC1
    have s3 := hb3.size; have k0 := (hb3.cell (p := ⟨gc, 0, none⟩) hl2).trans hc20; have k1 := (hb3.cell (p := ⟨gc, 1, none⟩) hl2).trans hc21
    go_wp2
    exact Flow.post_det hb3 (Grow.refl _) rfl rfl
  apply Flow.det_step
  · go_light
    intro w1 hC1
    simp only [Flow.fill, Flow.after, Flow.at_, List.nil_append, List.cons_append, List.getD_cons_zero, List.getD_cons_succ, det, forall_eq, List.setIfInBounds_toArray, List.set_cons_zero, List.set_cons_succ, List.drop, List.length]
    have hb3 := hC1
    have s3 := hb3.size; have k0 := (hb3.cell (p := ⟨gc, 0, none⟩) hl2).trans hc20; have k1 := (hb3.cell (p := ⟨gc, 1, none⟩) hl2).trans hc21
    go_wp2
    exact Flow.post_det hb3 (Grow.refl _) rfl rfl
  apply Flow.det_step
  · go_light
    intro w1 hC1
    simp only [Flow.fill, Flow.after, Flow.at_, List.nil_append, List.cons_append, List.getD_cons_zero, List.getD_cons_succ, det, forall_eq, List.setIfInBounds_toArray, List.set_cons_zero, List.set_cons_succ, List.drop, List.length]
    have hb3 := hC1
    have s3 := hb3.size; have k0 := (hb3.cell (p := ⟨gc, 0, none⟩) hl2).trans hc20; have k1 := (hb3.cell (p := ⟨gc, 1, none⟩) hl2).trans hc21
    go_wp2
    exact Flow.post_det hb3 (Grow.refl _) rfl rfl
  apply Flow.det_step
  · go_light
    intro w1 hC1
    simp only [Flow.fill, Flow.after, Flow.at_, List.nil_append, List.cons_append, List.getD_cons_zero, List.getD_cons_succ, det, forall_eq, List.setIfInBounds_toArray, List.set_cons_zero, List.set_cons_succ, List.drop, List.length]
    have hb3 := hC1
    have s3 := hb3.size; have k0 := (hb3.cell (p := ⟨gc, 0, none⟩) hl2).trans hc20; have k1 := (hb3.cell (p := ⟨gc, 1, none⟩) hl2).trans hc21
    go_wp2
    exact Flow.post_det hb3 (Grow.refl _) rfl rfl
  apply Flow.det_step
  · go_light
    intro w1 hC1
    simp only [Flow.fill, Flow.after, Flow.at_, List.nil_append, List.cons_append, List.getD_cons_zero, List.getD_cons_succ, det, forall_eq, List.setIfInBounds_toArray, List.set_cons_zero, List.set_cons_succ, List.drop, List.length]
    have hb3 := hC1
    have s3 := hb3.size; have k0 := (hb3.cell (p := ⟨gc, 0, none⟩) hl2).trans hc20; have k1 := (hb3.cell (p := ⟨gc, 1, none⟩) hl2).trans hc21
    go_wp2_with (go_at_call 13; refine (sum_any A2 n2 c2 bs w1 wS.heap.size (HR2.out.below' hb3 (Nat.le_refl _)) s3 (by omega)).mono ?_; rintro e' w8 ⟨rfl, hb8⟩)
    exact Flow.post_det (hb3.trans (hb8.mono s3)) hb8 rfl rfl
  apply Flow.det_step
  · go_light
    intro w1 hC1
    simp only [Flow.fill, Flow.after, Flow.at_, List.nil_append, List.cons_append, List.getD_cons_zero, List.getD_cons_succ, det, forall_eq, List.setIfInBounds_toArray, List.set_cons_zero, List.set_cons_succ, List.drop, List.length]
    have hb3 := hC1
    have s3 := hb3.size; have k0 := (hb3.cell (p := ⟨gc, 0, none⟩) hl2).trans hc20; have k1 := (hb3.cell (p := ⟨gc, 1, none⟩) hl2).trans hc21
    go_wp2
    exact Flow.post_det hb3 (Grow.refl _) rfl rfl
  apply Flow.det_step
  · go_light
    intro w1 hC1
    simp only [Flow.fill, Flow.after, Flow.at_, List.nil_append, List.cons_append, List.getD_cons_zero, List.getD_cons_succ, det, forall_eq, List.setIfInBounds_toArray, List.set_cons_zero, List.set_cons_succ, List.drop, List.length]
    have hb3 := hC1
    have s3 := hb3.size; have k0 := (hb3.cell (p := ⟨gc, 0, none⟩) hl2).trans hc20; have k1 := (hb3.cell (p := ⟨gc, 1, none⟩) hl2).trans hc21
    go_wp2_with (go_at_call 14; refine (loadSum_any A2 n2 c2 bs w1 wS.heap.size (HR2.out.below' hb3 (Nat.le_refl _)) s3 (by omega)).mono ?_; rintro e' w8 ⟨rfl, hb8⟩)
    exact Flow.post_det (hb3.trans (hb8.mono s3)) hb8 rfl rfl
  apply Flow.det_step
  · go_light
    intro w1 hC1
    simp only [Flow.fill, Flow.after, Flow.at_, List.nil_append, List.cons_append, List.getD_cons_zero, List.getD_cons_succ, det, forall_eq, List.setIfInBounds_toArray, List.set_cons_zero, List.set_cons_succ, List.drop, List.length]
    have hb3 := hC1
    have s3 := hb3.size; have k0 := (hb3.cell (p := ⟨gc, 0, none⟩) hl2).trans hc20; have k1 := (hb3.cell (p := ⟨gc, 1, none⟩) hl2).trans hc21
    go_wp2
    exact Flow.post_det hb3 (Grow.refl _) rfl rfl
  apply Flow.det_step
  · go_light
    intro w1 hC1
    simp only [Flow.fill, Flow.after, Flow.at_, List.nil_append, List.cons_append, List.getD_cons_zero, List.getD_cons_succ, det, forall_eq, List.setIfInBounds_toArray, List.set_cons_zero, List.set_cons_succ, List.drop, List.length]
    have hb3 := hC1
    have s3 := hb3.size; have k0 := (hb3.cell (p := ⟨gc, 0, none⟩) hl2).trans hc20; have k1 := (hb3.cell (p := ⟨gc, 1, none⟩) hl2).trans hc21
    go_wp2
    exact Flow.post_det hb3 (Grow.refl _) rfl rfl
  intro w1 hC1
  simp only [Flow.fill, Flow.after, Flow.at_, List.nil_append, List.cons_append, List.getD_cons_zero, List.getD_cons_succ, det, forall_eq, List.setIfInBounds_toArray, List.set_cons_zero, List.set_cons_succ, List.drop, List.length]
  rintro _ - _ -
  have hb3 := hC1
  go_wp2
  go_ret
  exact ⟨rfl, by rw [HGC.out]; exact HB2.out.trans (hb3.mono hs2)⟩
end Go.Proofs.YtdgjcjhdclihpaaDoor
