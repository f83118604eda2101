/- The closure little f19; ringref4.LoadBytes f6 (printed by mkLdF.py). -/
import Derived.Test.YtdgjcjhdclihpaaDoorLdP
import Derived.Test.YtdgjcjhdclihpaaDoorFlow
namespace Go.Proofs.YtdgjcjhdclihpaaDoor
open Go.RowKit
set_option maxHeartbeats 400000
set_option linter.unusedVariables false
set_option linter.unusedSimpArgs false
def StrIs (xs : List Int) (w : World) (e : Ending) (w' : World) : Prop := e = .returned (.string (strOfNums xs)) ∧ Below w.heap.size w w'
set_option maxRecDepth 100000 in
theorem little_any (w : Int) (W : World) (h0 : 0 ≤ w) (h1 : w < 4294967296) : Calls Tryd.prog 19 #[.int .u32 w] W (StrIs (four w) W) := by
  have e4 : w / 16777216 % 256 = w / 16777216 := by omega
  have hn := (four_new W w).reads
  rw [e4] at hn
  have hrb : RB (W.alloc (.cells #[.int .u8 (w % 256), .int .u8 (w / 256 % 256), .int .u8 (w / 65536 % 256), .int .u8 (w / 16777216)] 5)) (W.alloc (.cells #[.int .u8 (w % 256), .int .u8 (w / 256 % 256), .int .u8 (w / 65536 % 256), .int .u8 (w / 16777216)] 5)).heap.size (some ⟨W.heap.size, 0, none⟩) 4 (four w) := ⟨hn, four_byt w⟩
  have hcv := hrb.conv (P := Tryd.prog) 4 26 9 5 Tryd.underlying26 Tryd.underlying5 Tryd.underlying9
  clear hn e4 hrb
  have w1 : IntKind.u8.wrap w = w % 256 := by rw [IntKind.wrap_u8]
  go_enter Tryd.func19, Tryd.ntmps19
  go_wp2
  go_ret
  exact ⟨rfl, (Below.refl _ _).alloc (Nat.le_refl _) _⟩
theorem head_str {e : Int} {n : Nat} (h : n ≤ 64) : (⟨#[82, 72, 49]⟩ : ByteArray) ++ strOfNums [(n : Int)] ++ strOfNums (four e) = strOfNums (headS e n) := by
  have h1 : (⟨#[82, 72, 49]⟩ : ByteArray) = strOfNums [82, 72, 49] := rfl
  have h2 : (n : Int) % 256 = n := by omega
  rw [h1, strOfNums_append, strOfNums_append]
  unfold headS
  rw [h2]
  rfl
set_option maxHeartbeats 8000000 in
set_option maxRecDepth 100000 in
theorem loadBytes_any (e : Int) (A : Option Addr) (n c : Nat) (gs : List Pg) (w : World) (B : Nat) (h : RP w B A n gs) (hB : B ≤ w.heap.size) (he : 0 ≤ e ∧ e < 4294967296) (hbig : Big n gs) :
    Calls Tryd.prog 6 #[.agg #[.int .u32 e, .slice A n c]] w (FilePost e gs w) := by
  obtain ⟨i0, hi, hz0, hz1, hz2⟩ := info_parts infoB
  have hb0 : Below w.heap.size w (w.alloc (.cells #[.int .u32 e, .slice A n c] 25)) := (Below.refl _ _).alloc (Nat.le_refl _) _
  have hbox0 : Blk (w.alloc (.cells #[.int .u32 e, .slice A n c] 25)) w.heap.size #[.int .u32 e, .slice A n c] 25 := Blk.new w _ 25
  have hlen := h.2.1
  have hfit := hbig.fit
  have hcm : n ≤ 9223372036854775807 := by omega
  have HCK := Lib.hid (loadFault_any e A n c gs (w.alloc (.cells #[.int .u32 e, .slice A n c] 25)) B (h.below' hb0 hB) (by have := hb0.size; omega) he hcm)
  have HRP := Lib.hid h
  have HBIG := Lib.hid hbig
  have HXL : Hid (∀ g ∈ gs, g.xs.length = g.n) := Lib.hid (fun g hg => (h.2.2 g hg).1.len)
  go_enter Tryd.func6, Tryd.ntmps6
  go_wp2_with fail
  refine HCK.out.mono ?_
  rintro er w1 ⟨x, rfl, hx, hb1⟩
  have hbw1 : Below w.heap.size w w1 := hb0.trans (hb1.mono hb0.size)
  have hbox1 := hbox0.fr (Fr.of_grow hb1) (fun h => h)
  obtain ⟨gc, hgc⟩ : ∃ g, w.heap.size = g := ⟨_, rfl⟩
  rw [hgc] at hbox1 hbw1 hB
  have HGC := Lib.hid hgc
  have hc1 := hbox1.cell
  have hl1 := hbox1.lt
  have HBW1 := Lib.hid hbw1
  have HBOX1 := Lib.hid hbox1
  clear HCK hb0 hbox0 hb1 hbw1 hbox1 h hbig
  by_cases hz : x = 0
  rotate_left
  · have HX := Lib.hid hx
    have HZ := Lib.hid hz
    have hz' : (x != 0) = true := by simpa using hz
    clear hx hz hgc
    go_wp2
    refine bodyPost_ret (v := .tuple #[.slice none 0 0, .int .i64 x]) (by simp [results, Tryd.results6, go_sem]) rfl ?_
    exact FilePost.bad HX.out HZ.out (by rw [HGC.out]; exact HBW1.out)
  subst hz
  have HX := Lib.hid hx
  have hn64 : n ≤ 64 := by rw [← hlen]; exact hx.zero_ok.1
  clear hx
  have hwn : IntKind.u8.wrap (n : Int) = n := by rw [IntKind.wrap_u8]; omega
  have hHD := Lib.hid (head_str (e := e) hn64)
  have HBN : Hid (Byt [(n : Int)]) := Lib.hid (fun y hy => by rw [List.mem_singleton.1 hy]; omega)
  have HE := Lib.hid he
  obtain ⟨wS, hwS⟩ : ∃ wS, wS = w1 := ⟨_, rfl⟩
  rw [← hwS] at HBW1 HBOX1 hc1 hl1 ⊢
  have hc10 := hc1 0
  have hc11 := hc1 1
  have hsz1 : ((⟨#[82, 72, 49]⟩ : ByteArray) ++ strOfNums [(n : Int)]).size = 4 := rfl
  have hsz2 : (strOfNums (four e)).size = 4 := rfl
  have hsz3 : (strOfNums [(n : Int)]).size = 1 := rfl
  have hszl : (⟨#[82, 72, 49]⟩ : ByteArray).size = 3 := rfl
  dsimp at hc10 hc11
  clear hwS hc1
  go_wp2_with fail
  refine wp_region_walk (fun w' => Below wS.heap.size wS w') [[], [(14, 0)], [(15, 1)], [(16, 2)], [(17, 3)], [(18, 4)], [(19, 5)], [], [], [(22, 8)], [(21, 7), (23, 9)], [(20, 6), (24, 10)]]
    [(14, 0), (15, 1), (16, 2), (17, 3), (18, 4), (19, 5), (20, 6), (21, 7), (22, 8), (23, 9), (24, 10), (25, 11)] (by kernel_rfl) (by kernel_rfl) (by kernel_rfl) (Below.refl _ _).drew ?_
  apply Flow.det_step
  · go_light
    intro w1 hC1
    simp only [Flow.fill, Flow.after, Flow.at_, List.nil_append, List.cons_append, List.getD_cons_zero, List.getD_cons_succ, det, forall_eq, List.setIfInBounds_toArray, List.set_cons_zero, List.set_cons_succ, List.drop, List.length]
    have hb3 := hC1
    have s3 := hb3.size; have k0 := (hb3.cell (p := ⟨gc, 0, none⟩) hl1).trans hc10; have k1 := (hb3.cell (p := ⟨gc, 1, none⟩) hl1).trans hc11
    go_wp2
    exact Flow.post_det hb3 (Grow.refl _) rfl rfl
  apply Flow.det_step
  · go_light
    intro w1 hC1
    simp only [Flow.fill, Flow.after, Flow.at_, List.nil_append, List.cons_append, List.getD_cons_zero, List.getD_cons_succ, det, forall_eq, List.setIfInBounds_toArray, List.set_cons_zero, List.set_cons_succ, List.drop, List.length]
    have hb3 := hC1
    have s3 := hb3.size; have k0 := (hb3.cell (p := ⟨gc, 0, none⟩) hl1).trans hc10; have k1 := (hb3.cell (p := ⟨gc, 1, none⟩) hl1).trans hc11
    go_wp2
    exact Flow.post_det hb3 (Grow.refl _) rfl rfl
  apply Flow.det_step
  · go_light
    intro w1 hC1
    simp only [Flow.fill, Flow.after, Flow.at_, List.nil_append, List.cons_append, List.getD_cons_zero, List.getD_cons_succ, det, forall_eq, List.setIfInBounds_toArray, List.set_cons_zero, List.set_cons_succ, List.drop, List.length]
    have hb3 := hC1
    have s3 := hb3.size; have k0 := (hb3.cell (p := ⟨gc, 0, none⟩) hl1).trans hc10; have k1 := (hb3.cell (p := ⟨gc, 1, none⟩) hl1).trans hc11
    go_wp2
    exact Flow.post_det hb3 (Grow.refl _) rfl rfl
  apply Flow.det_step
  · go_light
    intro w1 hC1
    simp only [Flow.fill, Flow.after, Flow.at_, List.nil_append, List.cons_append, List.getD_cons_zero, List.getD_cons_succ, det, forall_eq, List.setIfInBounds_toArray, List.set_cons_zero, List.set_cons_succ, List.drop, List.length]
    have hb3 := hC1
    have s3 := hb3.size; have k0 := (hb3.cell (p := ⟨gc, 0, none⟩) hl1).trans hc10; have k1 := (hb3.cell (p := ⟨gc, 1, none⟩) hl1).trans hc11
    go_wp2
    exact Flow.post_det hb3 (Grow.refl _) rfl rfl
  refine Flow.st_step (freshSt (fun g => .slice (some ⟨g, 0, none⟩) 1 1) ([(n : Int)].map (Value.int .u8))) ?_ ?_
  · go_light
    intro w1 hC1
    simp only [Flow.fill, Flow.after, Flow.at_, List.nil_append, List.cons_append, List.getD_cons_zero, List.getD_cons_succ, det, forall_eq, List.setIfInBounds_toArray, List.set_cons_zero, List.set_cons_succ, List.drop, List.length]
    have hb3 := hC1
    have s3 := hb3.size; have k0 := (hb3.cell (p := ⟨gc, 0, none⟩) hl1).trans hc10; have k1 := (hb3.cell (p := ⟨gc, 1, none⟩) hl1).trans hc11
    go_wp2
    exact Flow.post_st (hb3.alloc s3 _) (Grow.alloc _ _) rfl rfl (fresh_alloc _ 5 ([(n : Int)].map (Value.int .u8)) (fun g => .slice (some ⟨g, 0, none⟩) 1 1) rfl)
  apply Flow.det_step
  · go_light
    intro w1 hC1
    simp only [Flow.fill, Flow.after, Flow.at_, List.nil_append, List.cons_append, List.getD_cons_zero, List.getD_cons_succ, det, forall_eq, List.setIfInBounds_toArray, List.set_cons_zero, List.set_cons_succ, List.drop, List.length]
    rintro _ ⟨g6, rfl, hg6, hcs6⟩
    have hb3 := hC1
    have s3 := hb3.size; have k0 := (hb3.cell (p := ⟨gc, 0, none⟩) hl1).trans hc10; have k1 := (hb3.cell (p := ⟨gc, 1, none⟩) hl1).trans hc11
    have hcv : (convert 26 9 (.slice (some ⟨g6, 0, none⟩) 1 1)).run Tryd.prog w1 = .ok (.string (strOfNums [(n : Int)])) w1 := (RB.of_cells hg6 HBN.out hcs6).conv (P := Tryd.prog) 1 26 9 5 Tryd.underlying26 Tryd.underlying5 Tryd.underlying9
    clear hcs6
    go_wp2
    exact Flow.post_det hb3 (Grow.refl _) rfl rfl
  apply Flow.det_step
  · go_light
    intro w1 hC1
    simp only [Flow.fill, Flow.after, Flow.at_, List.nil_append, List.cons_append, List.getD_cons_zero, List.getD_cons_succ, det, forall_eq, List.setIfInBounds_toArray, List.set_cons_zero, List.set_cons_succ, List.drop, List.length]
    have hb3 := hC1
    have s3 := hb3.size; have k0 := (hb3.cell (p := ⟨gc, 0, none⟩) hl1).trans hc10; have k1 := (hb3.cell (p := ⟨gc, 1, none⟩) hl1).trans hc11
    go_wp2
    exact Flow.post_det hb3 (Grow.refl _) rfl rfl
  apply Flow.det_step
  · go_light
    intro w1 hC1
    simp only [Flow.fill, Flow.after, Flow.at_, List.nil_append, List.cons_append, List.getD_cons_zero, List.getD_cons_succ, det, forall_eq, List.setIfInBounds_toArray, List.set_cons_zero, List.set_cons_succ, List.drop, List.length]
    have hb3 := hC1
    have s3 := hb3.size; have k0 := (hb3.cell (p := ⟨gc, 0, none⟩) hl1).trans hc10; have k1 := (hb3.cell (p := ⟨gc, 1, none⟩) hl1).trans hc11
    go_wp2
    exact Flow.post_det hb3 (Grow.refl _) rfl rfl
  apply Flow.det_step
  · go_light
    intro w1 hC1
    simp only [Flow.fill, Flow.after, Flow.at_, List.nil_append, List.cons_append, List.getD_cons_zero, List.getD_cons_succ, det, forall_eq, List.setIfInBounds_toArray, List.set_cons_zero, List.set_cons_succ, List.drop, List.length]
    have hb3 := hC1
    have s3 := hb3.size; have k0 := (hb3.cell (p := ⟨gc, 0, none⟩) hl1).trans hc10; have k1 := (hb3.cell (p := ⟨gc, 1, none⟩) hl1).trans hc11
    go_wp2
    exact Flow.post_det hb3 (Grow.refl _) rfl rfl
  apply Flow.det_step
  · go_light
    intro w1 hC1
    simp only [Flow.fill, Flow.after, Flow.at_, List.nil_append, List.cons_append, List.getD_cons_zero, List.getD_cons_succ, det, forall_eq, List.setIfInBounds_toArray, List.set_cons_zero, List.set_cons_succ, List.drop, List.length]
    have hb3 := hC1
    have s3 := hb3.size; have k0 := (hb3.cell (p := ⟨gc, 0, none⟩) hl1).trans hc10; have k1 := (hb3.cell (p := ⟨gc, 1, none⟩) hl1).trans hc11
    go_wp2
    exact Flow.post_det hb3 (Grow.refl _) rfl rfl
  apply Flow.det_step
  · go_light
    intro w1 hC1
    simp only [Flow.fill, Flow.after, Flow.at_, List.nil_append, List.cons_append, List.getD_cons_zero, List.getD_cons_succ, det, forall_eq, List.setIfInBounds_toArray, List.set_cons_zero, List.set_cons_succ, List.drop, List.length]
    have hb3 := hC1
    have s3 := hb3.size; have k0 := (hb3.cell (p := ⟨gc, 0, none⟩) hl1).trans hc10; have k1 := (hb3.cell (p := ⟨gc, 1, none⟩) hl1).trans hc11
    go_wp2_with (go_at_call 19; refine (little_any e w1 HE.out.1 HE.out.2).mono ?_; rintro e' w8 ⟨rfl, hb8⟩)
    exact Flow.post_det (hb3.trans (hb8.mono s3)) hb8 rfl rfl
  apply Flow.det_step
  · go_light
    intro w1 hC1
    simp only [Flow.fill, Flow.after, Flow.at_, List.nil_append, List.cons_append, List.getD_cons_zero, List.getD_cons_succ, det, forall_eq, List.setIfInBounds_toArray, List.set_cons_zero, List.set_cons_succ, List.drop, List.length]
    have hb3 := hC1
    have s3 := hb3.size; have k0 := (hb3.cell (p := ⟨gc, 0, none⟩) hl1).trans hc10; have k1 := (hb3.cell (p := ⟨gc, 1, none⟩) hl1).trans hc11
    go_wp2
    exact Flow.post_det hb3 (Grow.refl _) rfl rfl
  intro w1 hC1
  simp only [Flow.fill, Flow.after, Flow.at_, List.nil_append, List.cons_append, List.getD_cons_zero, List.getD_cons_succ, det, forall_eq, List.setIfInBounds_toArray, List.set_cons_zero, List.set_cons_succ, List.drop, List.length]
  rintro _ ⟨g6, rfl, hg6, hcs6⟩
  have hb3 := hC1
  have s3 := hb3.size
  have HB8 := Lib.hid (HBW1.out.trans (hb3.mono (by have := HBW1.out.size; omega)))
  have hbox8 := HBOX1.out.fr (Fr.of_grow hb3) (fun h => h)
  have hc8 := hbox8.cell
  have hl8 := hbox8.lt
  have hrp8 : RP w1 B A n gs := HRP.out.below' HB8.out hB
  have HTR := Lib.hid (loadTrim_any e A n c gs w1 B hrp8 (by omega) HBIG.out)
  have hfd := run_field25
  rw [hHD.out]
  clear hb3 hbox8 hrp8 hc10 hc11 hsz1 hsz2 hsz3 hszl hgc hcs6 hg6
  go_wp2_with fail
  refine HTR.out.mono ?_
  rintro e' w5 ⟨A5, n5, c5, gs5, rfl, hl5, hk5, hp5, hb5⟩
  obtain rfl : n = n5 := by
    have := congrArg List.length hk5
    simp at this
    omega
  have HK5 := Lib.hid hk5
  have HP5 := Lib.hid hp5
  have HB5 := Lib.hid (HB8.out.trans (hb5.mono (by have := HB8.out.size; omega)))
  have HL5 := Lib.hid hl5
  have hg5 : gc < w5.heap.size := by have := hb5.size; omega
  have H0 : Hid (strOfNums (headS e n) = strOfNums (xsJ e n gs5 0)) := Lib.hid (by unfold xsJ; simp)
  rw [H0.out]
  clear hk5 hp5 hb5 hl5 hc8 hl8 H0
  go_wp2_with fail
  go_loopw [6, 30] (fun v6 i wr => ∃ j : Nat, j ≤ n ∧ i = .int .i64 j ∧ v6 = .string (strOfNums (xsJ e n gs5 j)) ∧ (xsJ e n gs5 j).length ≤ 8 + 19 * j ∧ Hid (Below w5.heap.size w5 wr)) (fun _ i _ => n - (intOf i).toNat)
  case atStart => exact ⟨0, Nat.zero_le _, rfl, rfl, by simp [xsJ, headS, four], Lib.hid (Below.refl _ _)⟩
  case round =>
    obtain ⟨j, hj, rfl, rfl, hk, hbw⟩ := hrel
    have hsw := hbw.out.size
    by_cases hjn : j < n
    rotate_left
    · obtain rfl : j = n := by omega
      rw [xsJ_all HK5.out hlen] at hk ⊢
      have HBT : Hid (Byt (bodyS e (gs.map Pg.keyT))) := Lib.hid (by rw [← xsJ_all HK5.out hlen]; exact xsJ_byt (fun g hg => (HP5.out.own g hg).1.1.2))
      have HFS : Hid (fileS e (gs.map Pg.keyT) = bodyS e (gs.map Pg.keyT) ++ four (sumS (bodyS e (gs.map Pg.keyT)))) := Lib.hid rfl
      generalize bodyS e (gs.map Pg.keyT) = bs at *
      have hsr := sumS_rng bs
      have hsb := fun W s => Lib.run_convert_string_bytes (P := Tryd.prog) W 9 26 5 s Tryd.underlying9 Tryd.underlying26 Tryd.underlying5
      have hbs := RB.bytes wr 5 bs HBT.out
      rw [← strOfNums_size bs] at hbs
      have HSUM := Lib.hid (loadSum_any (some ⟨wr.heap.size, 0, none⟩) (strOfNums bs).size (grownCap wr (strOfNums bs).size 0 5) bs (Lib.bytesWorld wr 5 (strOfNums bs)) (wr.heap.size + 1) hbs (by rw [Lib.bytesWorld_size]; omega) (by rw [strOfNums_size]; omega))
      have HF4 := Lib.hid (fun W => little_any (sumS bs) W hsr.1 hsr.2)
      have HB4' : Hid (Byt (bs ++ four (sumS bs))) := Lib.hid (HBT.out.append (four_byt _))
      have HBW : Hid (Below gc w (Lib.bytesWorld wr 5 (strOfNums bs))) := Lib.hid ((HB5.out.trans (hbw.out.mono (by omega))).trans ((below_bytes wr 5 (strOfNums bs)).mono (by omega)))
      have hsB := (below_bytes wr 5 (strOfNums bs)).size
      generalize sumS bs = sm at *
      clear hbs
      go_wp2_with fail
      refine HSUM.out.mono ?_
      rintro e' w6 ⟨rfl, hb6⟩
      have HB6 := Lib.hid (HBW.out.trans (hb6.mono (by omega)))
      have hs6 := hb6.size
      clear hb6
      go_wp2_with fail
      refine (HF4.out w6).mono ?_
      rintro e' w7 ⟨rfl, hb7⟩
      have HB7 := Lib.hid (HB6.out.trans (hb7.mono (by omega)))
      have hs7 := hb7.size
      have hz1 : (strOfNums bs).size = bs.length := strOfNums_size bs
      have hz2 : (strOfNums (four sm)).size = 4 := rfl
      have hcat := strOfNums_append bs (four sm)
      have hfl : (strOfNums (bs ++ four sm)).size = bs.length + 4 := by rw [strOfNums_size, List.length_append]; rfl
      have hle : ¬ 9223372036854775807 < bs.length + 4 := by omega
      clear hb7 hsb
      by_cases hbig : 512 < bs.length + 4
      · have hbi : (512 : Int) < ((bs.length + 4 : Nat) : Int) := by omega
        have hbi2 : (512 : Int) < (bs.length : Int) + 4 := by omega
        go_wp2
        refine bodyPost_ret (v := .tuple #[.slice none 0 0, .int .i64 2]) (by simp [results, Tryd.results6, go_sem]) rfl ?_
        exact ⟨none, 0, 0, [], 2, rfl, ⟨0, HX.out, .inr (.inl ⟨rfl, by rw [HFS.out, List.length_append]; exact hbig, rfl, rfl⟩)⟩, ⟨Reads.none_, fun y hy => by cases hy⟩, by rw [HGC.out]; exact HB7.out⟩
      · have hbi : ¬ (512 : Int) < ((bs.length + 4 : Nat) : Int) := by omega
        have hbi2 : ¬ (512 : Int) < (bs.length : Int) + 4 := by omega
        have hsb := fun W s => Lib.run_convert_string_bytes (P := Tryd.prog) W 9 26 5 s Tryd.underlying9 Tryd.underlying26 Tryd.underlying5
        have hr9 := RB.bytes w7 5 (bs ++ four sm) HB4'.out
        have HR9 : Hid (RB (Lib.bytesWorld w7 5 (strOfNums (bs ++ four sm))) (w7.heap.size + 1) (some ⟨w7.heap.size, 0, none⟩) (bs.length + 4) (bs ++ four sm)) := Lib.hid (by
          have e1 : (bs ++ four sm).length = bs.length + 4 := by rw [List.length_append]; rfl
          rw [← e1]; exact hr9)
        have HB9 := Lib.hid (HB7.out.trans ((below_bytes w7 5 (strOfNums (bs ++ four sm))).mono (by have := HB7.out.size; rw [HGC.out] at this; exact this)))
        clear hr9
        go_wp2
        refine bodyPost_ret (v := .tuple #[.slice (some ⟨w7.heap.size, 0, none⟩) (bs.length + 4) (grownCap w7 (bs.length + 4) 0 5), .int .i64 0]) (by simp [results, Tryd.results6, go_sem]) rfl ?_
        exact ⟨_, _, _, bs ++ four sm, 0, rfl, ⟨0, HX.out, .inr (.inr ⟨rfl, by rw [HFS.out, List.length_append]; show bs.length + 4 ≤ 512; omega, HFS.out.symm, rfl⟩)⟩, HR9.out.more (by rw [Lib.bytesWorld_size]; omega), by rw [HGC.out]; exact HB9.out⟩
    have hp := HP5.out.grow hbw.out
    have hl5 := HL5.out
    have hrow5 := hp.row
    rw [hl5] at hrow5
    obtain ⟨b, o, rfl, hb, hm, hcs⟩ := RS.at_ (cl := Pg.cells) (s := 3) (fun _ => rfl) Pg.zero (⟨hrow5.reads, hl5⟩ : RS Pg.cells 3 wr wr.heap.size A5 n gs5) hjn
    have x0 := hcs 0 _ rfl
    have x1 := hcs 1 _ rfl
    have x2 := hcs 2 _ rfl
    have hxr := (hp.own _ hm).1
    have hpo := page_ok HX.out HK5.out HXL.out (show j < gs.length by omega)
    have HXN := Lib.hid (xsJ_next (e := e) (n := n) (show j < gs5.length by omega))
    unfold pageS Pg.key at HXN
    clear hcs hm hrow5 hp
    generalize gs5.getD j Pg.zero = x at *
    obtain ⟨p, r, gA, gn, gcp, gxs⟩ := x
    dsimp only at x0 x1 x2 hxr hpo HXN
    rw [Nat.add_zero] at x0
    obtain ⟨hp0, hp1, hr0, hr1, hgl⟩ := hpo
    have hgn : gxs.length = gn := hxr.1.len
    rw [hgn] at hgl HXN
    have hwp : IntKind.u8.wrap p = p := by rw [IntKind.wrap_u8]; omega
    have hwr : IntKind.u8.wrap r = r := by rw [IntKind.wrap_u8]; omega
    have hwl : IntKind.u8.wrap (gn : Int) = gn := by rw [IntKind.wrap_u8]; omega
    have hY3 : Byt [p, r, (gn : Int)] := fun y hy => by
      simp at hy
      rcases hy with rfl | rfl | rfl <;> omega
    have hb1 : Below wr.heap.size wr ((wr.alloc (.cells #[.int .i64 p, .int .i64 r, .slice gA gn gcp] 41)).alloc (.cells #[.int .u8 p, .int .u8 r, .int .u8 (gn : Int)] 5)) := ((Below.refl _ _).alloc (Nat.le_refl _) _).alloc (by simp) _
    have hcv2 := ((hxr.1.below' hb1 (Nat.le_refl _))).conv (P := Tryd.prog) gcp 26 9 5 Tryd.underlying26 Tryd.underlying5 Tryd.underlying9
    have hcv1 : (convert 26 9 (.slice (some ⟨wr.heap.size + 1, 0, none⟩) 3 3)).run Tryd.prog ((wr.alloc (.cells #[.int .i64 p, .int .i64 r, .slice gA gn gcp] 41)).alloc (.cells #[.int .u8 p, .int .u8 r, .int .u8 (gn : Int)] 5)) = .ok (.string (strOfNums [p, r, (gn : Int)])) ((wr.alloc (.cells #[.int .i64 p, .int .i64 r, .slice gA gn gcp] 41)).alloc (.cells #[.int .u8 p, .int .u8 r, .int .u8 (gn : Int)] 5)) := by
      have h1 := RB.new (wr.alloc (.cells #[.int .i64 p, .int .i64 r, .slice gA gn gcp] 41)) 5 [p, r, (gn : Int)] hY3
      have h2 := h1.conv (P := Tryd.prog) 3 26 9 5 Tryd.underlying26 Tryd.underlying5 Tryd.underlying9
      simpa using h2
    have hz1 : (strOfNums [p, r, (gn : Int)]).size = 3 := rfl
    have hz2 : (strOfNums gxs).size = gn := by rw [strOfNums_size]; exact hgn
    obtain ⟨Y, hY⟩ : ∃ Y, [p, r, (gn : Int)] ++ gxs = Y := ⟨_, rfl⟩
    have hcat1 : strOfNums [p, r, (gn : Int)] ++ strOfNums gxs = strOfNums Y := by rw [strOfNums_append, hY]
    have hz3 : (strOfNums Y).size = gn + 3 := by rw [← hY, strOfNums_size, List.length_append, hgn]; show 3 + gn = gn + 3; omega
    have HN := Lib.hid (HXN.out.trans (by rw [show p % 256 = p by omega, show r % 256 = r by omega, show (gn : Int) % 256 = gn by omega, hY]) : xsJ e n gs5 (j + 1) = xsJ e n gs5 j ++ Y)
    have hYl : Y.length = gn + 3 := by rw [← hz3, strOfNums_size]
    have HLN : Hid ((xsJ e n gs5 (j + 1)).length ≤ 8 + 19 * (j + 1)) := Lib.hid (by rw [HN.out, List.length_append]; omega)
    have HSN : Hid (strOfNums (xsJ e n gs5 (j + 1)) = strOfNums (xsJ e n gs5 j ++ Y)) := Lib.hid (by rw [HN.out])
    have hcat2 := strOfNums_append (xsJ e n gs5 j) Y
    have hz4 : (strOfNums (xsJ e n gs5 j)).size = (xsJ e n gs5 j).length := strOfNums_size _
    have HB1 := Lib.hid (hbw.out.trans (hb1.mono hsw))
    have hkn : (j : Int) < n := by omega
    have hk0 : (0 : Int) ≤ j := by omega
    clear hY hxr hb1 hY3 hYl
    generalize (xsJ e n gs5 j).length = xl at *
    have hle : ¬ 9223372036854775807 < xl + (gn + 3) := by omega
    go_wp2
    go_roundw
    case rel => exact ⟨j + 1, by omega, by go_num, by rw [HSN.out], HLN.out, HB1⟩
    case measure => simp [intOf]; omega
end Go.Proofs.YtdgjcjhdclihpaaDoor
