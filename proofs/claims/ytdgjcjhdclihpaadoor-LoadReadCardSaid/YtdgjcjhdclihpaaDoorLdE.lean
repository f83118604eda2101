/- load.File f5. -/
import Derived.Test.YtdgjcjhdclihpaaDoorLdD
import Derived.Test.YtdgjcjhdclihpaaDoorLdP
import Derived.Test.YtdgjcjhdclihpaaDoorOwnF
namespace Go.Proofs.YtdgjcjhdclihpaaDoor
open Go.RowKit
set_option maxHeartbeats 400000
set_option linter.unusedVariables false
set_option linter.unusedSimpArgs false
theorem const3 (w1 : World) (x : Value) : Reads ((w1.alloc (.cells #[.int .u8 82, .int .u8 72, .int .u8 49] 5 (3, 4))).alloc (.cells #[x] 5)) ((w1.alloc (.cells #[.int .u8 82, .int .u8 72, .int .u8 49] 5 (3, 4))).alloc (.cells #[x] 5)).heap.size 1 (some ⟨w1.heap.size, 0, none⟩) 3 (([82, 72, 49] : List Int).map (Value.int .u8)) := by
  refine ⟨rfl, fun _ => ⟨w1.heap.size, 0, rfl, by simp; omega, fun j u hu => ?_⟩⟩
  have h1 : (w1.alloc (.cells #[.int .u8 82, .int .u8 72, .int .u8 49] 5 (3, 4))).heap[w1.heap.size]? = some (.cells #[.int .u8 82, .int .u8 72, .int .u8 49] 5 (3, 4)) := heap_alloc_new w1 _
  have h2 := (Below.heap_alloc (w1.alloc (.cells #[.int .u8 82, .int .u8 72, .int .u8 49] 5 (3, 4))) (.cells #[x] 5) w1.heap.size (by simp)).trans h1
  have h3 := cell_of_row _ w1.heap.size (0 + j) _ _ _ h2
  rw [h3, Nat.zero_add]
  simpa using hu
set_option maxHeartbeats 8000000 in
set_option maxRecDepth 100000 in
theorem file_any (e : Int) (A : Option Addr) (n c : Nat) (gs : List Pg) (w : World) (B : Nat) (h : RP w B A n gs) (hB : B ≤ w.heap.size) (he : 0 ≤ e ∧ e < 4294967296) (hbig : Big n gs) :
    Calls Tryd.prog 5 #[.agg #[.int .u32 e, .slice A n c]] w (FilePost e gs w) := by
  obtain ⟨i0, hi, hz0, hz1, hz2⟩ := info_parts infoB
  have hb0 : Below w.heap.size w (w.alloc (.cells #[.int .u32 e, .slice A n c] 25)) := (Below.refl _ _).alloc (Nat.le_refl _) _
  have hbox0 : Blk (w.alloc (.cells #[.int .u32 e, .slice A n c] 25)) w.heap.size #[.int .u32 e, .slice A n c] 25 := Blk.new w _ 25
  have hlen := h.2.1
  have hfit := hbig.fit
  have hcm : n ≤ 9223372036854775807 := by omega
  have HCK := Lib.hid (check_any e A n c gs (w.alloc (.cells #[.int .u32 e, .slice A n c] 25)) B (h.below' hb0 hB) (by have := hb0.size; omega) he hcm)
  have HRP := Lib.hid h
  have HBIG := Lib.hid hbig
  have HXL : Hid (∀ g ∈ gs, g.xs.length = g.n) := Lib.hid (fun g hg => (h.2.2 g hg).1.len)
  go_enter Tryd.func5, Tryd.ntmps5
  go_wp2_with fail
  refine HCK.out.mono ?_
  rintro er w1 ⟨x, rfl, hx, hb1⟩
  have hbw1 : Below w.heap.size w w1 := hb0.trans (hb1.mono hb0.size)
  have hbox1 := hbox0.fr (Fr.of_grow hb1) (fun h => h)
  obtain ⟨gc, hgc⟩ : ∃ g, w.heap.size = g := ⟨_, rfl⟩
  rw [hgc] at hbox1 hbw1 hB
  have HGC := Lib.hid hgc
  have hc1 := hbox1.cell
  have hl1 := hbox1.lt
  have HBW1 := Lib.hid hbw1
  have HBOX1 := Lib.hid hbox1
  clear HCK hb0 hbox0 hb1 hbw1 hbox1 h hbig
  by_cases hz : x = 0
  rotate_left
  · have HX := Lib.hid hx
    have HZ := Lib.hid hz
    have hz' : (x != 0) = true := by simpa using hz
    clear hx hz hgc
    go_wp2
    refine bodyPost_ret (v := .tuple #[.slice none 0 0, .int .i64 x]) (by simp [results, Tryd.results5, go_sem]) rfl ?_
    exact FilePost.bad HX.out HZ.out (by rw [HGC.out]; exact HBW1.out)
  subst hz
  have HX := Lib.hid hx
  have hn64 : n ≤ 64 := by rw [← hlen]; exact hx.zero_ok.1
  clear hx
  have hcv := Lib.run_convert_bytes_const (P := Tryd.prog) w1 26 5 #[.int .u8 82, .int .u8 72, .int .u8 49] 3 3 Tryd.underlying26 Tryd.underlying5
  have hwn : IntKind.u8.wrap (n : Int) = n := by rw [IntKind.wrap_u8]; omega
  have HC3 := Lib.hid (const3 w1 (.int .u8 (n : Int)))
  have HC1 : Hid (Reads ((w1.alloc (.cells #[.int .u8 82, .int .u8 72, .int .u8 49] 5 (3, 4))).alloc (.cells #[.int .u8 (n : Int)] 5)) (w1.heap.size + 1 + 1) 1 (some ⟨w1.heap.size + 1, 0, none⟩) 1 ([(n : Int)].map (Value.int .u8))) := Lib.hid (by have := reads_one (w1.alloc (.cells #[.int .u8 82, .int .u8 72, .int .u8 49] 5 (3, 4))) (.int .u8 (n : Int)) 5; simpa using this)
  have HB12 := Lib.hid (((Below.refl w1.heap.size w1).alloc (Nat.le_refl _) (.cells #[.int .u8 82, .int .u8 72, .int .u8 49] 5 (3, 4))).alloc (by simp) (.cells #[.int .u8 (n : Int)] 5))
  go_wp2_with (at_builtin; refine wpList_append_full _ rfl (.tmp 14) (.tmp 19) 26 rfl (gc + 1) 5 i0 (.int .u8 0) Tryd.underlying26 hi hz0 hz1 hz2 rfl w1.heap.size 0 3 (([82, 72, 49] : List Int).map (Value.int .u8)) rfl HC3.out (by decide) _ (w1.heap.size + 1) 0 1 1 ([(n : Int)].map (Value.int .u8)) rfl HC1.out (by decide) (by omega) (by simp; omega) ?_)
  intro A2 c2 w2 hr2 hg2
  have HR2 := Lib.hid hr2
  have hb2 : Below w1.heap.size w1 w2 := HB12.out.grown hg2 (by have := HB12.out.size; omega) (fun k hk => by cases hk)
  have hbox2 := HBOX1.out.fr (Fr.of_grow hb2) (fun h => h)
  have hc2 := hbox2.cell
  have hl2 := hbox2.lt
  have HB2 := Lib.hid (HBW1.out.trans (hb2.mono (by omega)))
  have HBOX2 := Lib.hid hbox2
  clear hr2 hg2 hb2 hbox2 hcv HC3 HC1 HB12 hc1 hl1 hgc
  have HF := Lib.hid (four_any e w2 he.1 he.2)
  go_wp2_with fail
  refine HF.out.mono ?_
  rintro e' w3 ⟨A3, n3, c3, rfl, hl3, hr3, hb3⟩
  obtain rfl : 4 = n3 := hl3
  have HR3 := Lib.hid hr3
  have HR2' := Lib.hid (HR2.out.grow hb3)
  have hbox3 := HBOX2.out.fr (Fr.of_grow hb3) (fun h => h)
  have hc3 := hbox3.cell
  have hl3' := hbox3.lt
  have HBOX3 := Lib.hid hbox3
  have HB3 := Lib.hid (HB2.out.trans (hb3.mono (by omega)))
  clear hr3 hb3 hbox3 hc2 hl2
  go_wp2_with (at_builtin; refine wpList_append_row _ rfl (.tmp 21) (.tmp 24) 26 rfl (gc + 1) 5 i0 (.int .u8 0) 1 1 Tryd.underlying26 hi hz0 hz1 hz2 rfl (by decide) (.slice A2 4 c2) 4 _ rfl HR2'.out w3.heap.size A3 4 c3 ((four e).map (Value.int .u8)) rfl HR3.out.reads (one_i _) (by unfold maxLen; omega) (by omega) (by omega) ?_)
  intro A4 c4 w4 hr4 hg4 ho4
  have hr4' : Row w4 (gc + 1) 5 1 (.slice A4 8 c4) 8 ((xsJ e n [] 0).map (Value.int .u8)) := by
    have e1 : (xsJ e n [] 0).map (Value.int .u8) = ([82, 72, 49] : List Int).map (Value.int .u8) ++ [(n : Int)].map (Value.int .u8) ++ (four e).map (Value.int .u8) := by
      have : (n : Int) % 256 = n := by omega
      simp [xsJ, headS, this]
    rw [e1]; exact hr4
  have HR4 := Lib.hid hr4'
  have hb4 : Fr (fun k => (Value.slice A2 4 c2).ownBlock = some k) w3 w4 := Fr.of_grown hg4
  have hng : ¬ (Value.slice A2 4 c2).ownBlock = some gc := fun e => by have := (HR2'.out.lt _ e).1; omega
  have hbox4 := HBOX3.out.fr hb4 hng
  have hc4 := hbox4.cell
  have hl4 := hbox4.lt
  have HB4 : Hid (Below gc w w4) := Lib.hid (HB3.out.grown hg4 (by omega) (fun k hk => by have := (HR2'.out.lt _ hk).1; omega))
  have hrp4 : RP w4 B A n gs := HRP.out.below' HB4.out hB
  have HTR := Lib.hid (trim_any e A n c gs w4 B hrp4 (by have := HB4.out.size; omega) HBIG.out)
  clear hr4 hr4' hg4 ho4 hb4 hbox4 hrp4 hc3 hl3' hng
  go_wp2_with fail
  refine HTR.out.mono ?_
  rintro e' w5 ⟨A5, n5, c5, gs5, rfl, hl5, hk5, hp5, hb5⟩
  obtain rfl : n = n5 := by
    have := congrArg List.length hk5
    simp at this
    omega
  have HK5 := Lib.hid hk5
  have HP5 := Lib.hid hp5
  have HR5 : Hid (Row w5 (gc + 1) 5 1 (.slice A4 8 c4) 8 ((xsJ e n gs5 0).map (Value.int .u8))) := Lib.hid (HR4.out.grow hb5)
  have HB5 := Lib.hid (HB4.out.trans (hb5.mono (by have := HB4.out.size; omega)))
  obtain ⟨t0, ht0⟩ : ∃ t, w4.heap.size = t := ⟨_, rfl⟩
  obtain ⟨t1, ht1⟩ : ∃ t, w5.heap.size = t := ⟨_, rfl⟩
  have ht01 : t0 ≤ t1 := by have := hb5.size; omega
  rw [ht0] at HP5
  have HL5 := Lib.hid hl5
  have HO5 : Hid (∀ k, (Value.slice A4 8 c4).ownBlock = some k → k < t0 ∨ t1 ≤ k) := Lib.hid (fun k hk => by have := (HR4.out.lt k hk).2; omega)
  have hg1 : gc < t0 := by omega
  have HT1 := Lib.hid ht1
  have hfd := run_field25
  clear hk5 hp5 hb5 hl5 hc4 hl4 ht0 ht1
  go_wp2_with fail
  go_loopw [5, 30] (fun v5 i wr => ∃ (j k : Nat) (A6 : Option Addr) (c6 : Nat), j ≤ n ∧ i = .int .i64 j ∧ v5 = .slice A6 k c6 ∧ k ≤ 8 + 19 * j ∧ Hid (Row wr (gc + 1) 5 1 (.slice A6 k c6) k ((xsJ e n gs5 j).map (Value.int .u8))) ∧ Hid (∀ k', (Value.slice A6 k c6).ownBlock = some k' → k' < t0 ∨ t1 ≤ k') ∧ Hid (Fr (fun k' => (gc + 1 ≤ k' ∧ k' < t0) ∨ t1 ≤ k') w5 wr)) (fun _ i _ => n - (intOf i).toNat)
  case atStart => exact ⟨0, 8, A4, c4, Nat.zero_le _, rfl, rfl, by omega, HR5, HO5, Lib.hid (Fr.refl _ _)⟩
  case round =>
    obtain ⟨j, k, A6, c6, hj, rfl, rfl, hk, hrow, hown, hfr⟩ := hrel
    have hbg : Below (gc + 1) w5 wr := hfr.out.below (by have := HT1.out; omega) (fun k' h => by omega)
    have hsw := hbg.size
    have HBG := Lib.hid hbg
    clear hbg
    by_cases hjn : j < n
    rotate_left
    · obtain rfl : j = n := by omega
      have hgw : gc < wr.heap.size := by have := HT1.out; omega
      have hrow' := hrow.out
      rw [xsJ_all HK5.out hlen] at hrow'
      have HBT : Hid (Byt (bodyS e (gs.map Pg.keyT))) := Lib.hid (by rw [← xsJ_all HK5.out hlen]; exact xsJ_byt (fun g hg => (HP5.out.own g hg).1.1.2))
      have HFS : Hid (fileS e (gs.map Pg.keyT) = bodyS e (gs.map Pg.keyT) ++ four (sumS (bodyS e (gs.map Pg.keyT)))) := Lib.hid rfl
      generalize bodyS e (gs.map Pg.keyT) = bs at *
      have hbl : bs.length = k := by have := hrow'.1; simpa using this
      have hsr := sumS_rng bs
      have HSUM := Lib.hid (sum_any A6 k c6 bs wr wr.heap.size ⟨hrow'.reads, HBT.out⟩ (Nat.le_refl _) (by omega))
      have HF4 := Lib.hid (fun W => four_any (sumS bs) W hsr.1 hsr.2)
      have HB4' : Hid (Byt (bs ++ four (sumS bs))) := Lib.hid (HBT.out.append (four_byt _))
      generalize sumS bs = sm at *
      have HROW := Lib.hid hrow'
      have HBW : Hid (Below gc w wr) := Lib.hid (HB5.out.trans (HBG.out.mono (by omega)))
      clear hrow' hrow hfr hown
      go_wp2_with fail
      refine HSUM.out.mono ?_
      rintro e' w6 ⟨rfl, hb6⟩
      have HROW6 := Lib.hid (HROW.out.grow hb6)
      have HB6 := Lib.hid (HBW.out.trans (hb6.mono (by omega)))
      have hs6 := hb6.size
      clear hb6
      go_wp2_with fail
      refine (HF4.out w6).mono ?_
      rintro e' w7 ⟨A7, n7, c7, rfl, hl7, hr7, hb7⟩
      obtain rfl : 4 = n7 := hl7
      have HROW7 := Lib.hid (HROW6.out.grow hb7)
      have HB7 := Lib.hid (HB6.out.trans (hb7.mono (by omega)))
      have hs7 := hb7.size
      have HR7 := Lib.hid hr7
      clear hb7 hr7
      go_wp2_with (at_builtin; refine wpList_append_row _ rfl (.tmp 51) (.tmp 54) 26 rfl (gc + 1) 5 i0 (.int .u8 0) 1 1 Tryd.underlying26 hi hz0 hz1 hz2 rfl (by decide) (.slice A6 k c6) k (bs.map (Value.int .u8)) rfl HROW7.out w7.heap.size A7 4 c7 ((four sm).map (Value.int .u8)) rfl HR7.out.reads (one_i _) (by unfold maxLen; omega) (by omega) (by omega) ?_)
      intro A8 c8 w8 hr8 hg8 ho8
      have HR8 : Hid (RB w8 w8.heap.size A8 (k + 4) (bs ++ four sm)) := Lib.hid ⟨by rw [List.map_append]; exact hr8.reads, HB4'.out⟩
      have HB8 : Hid (Below gc w w8) := Lib.hid (HB7.out.grown hg8 (by omega) (fun k' hk' => by have := (HROW7.out.lt _ hk').1; omega))
      have hfl : (bs ++ four sm).length = k + 4 := by rw [List.length_append, hbl]; rfl
      clear hr8 hg8 ho8
      by_cases hbig : 512 < k + 4
      · have hbi : (512 : Int) < ((k + 4 : Nat) : Int) := by omega
        have hbi2 : (512 : Int) < (k : Int) + 4 := by omega
        go_wp2
        refine bodyPost_ret (v := .tuple #[.slice none 0 0, .int .i64 2]) (by simp [results, Tryd.results5, go_sem]) rfl ?_
        exact ⟨none, 0, 0, [], 2, rfl, ⟨0, HX.out, .inr (.inl ⟨rfl, by rw [HFS.out, hfl]; exact hbig, rfl, rfl⟩)⟩, ⟨Reads.none_, fun y hy => by cases hy⟩, by rw [HGC.out]; exact HB8.out⟩
      · have hbi : ¬ (512 : Int) < ((k + 4 : Nat) : Int) := by omega
        have hbi2 : ¬ (512 : Int) < (k : Int) + 4 := by omega
        have HCL := Lib.hid (cloneB_any A8 (k + 4) c8 (bs ++ four sm) w8 w8.heap.size HR8.out (Nat.le_refl _) (by omega))
        go_wp2_with fail
        refine HCL.out.mono ?_
        rintro e' w9 ⟨A9, n9, c9, rfl, hl9, hr9, hb9⟩
        have HR9 : Hid (RB w9 w9.heap.size A9 n9 (bs ++ four sm)) := Lib.hid ⟨hr9.reads, HB4'.out⟩
        have HB9 := Lib.hid (HB8.out.trans (hb9.mono (by have := HB8.out.size; rw [HGC.out] at this; exact this)))
        clear hr9 hb9
        go_wp2
        refine bodyPost_ret (v := .tuple #[.slice A9 n9 c9, .int .i64 0]) (by simp [results, Tryd.results5, go_sem]) rfl ?_
        exact ⟨A9, n9, c9, _, 0, rfl, ⟨0, HX.out, .inr (.inr ⟨rfl, by rw [HFS.out, hfl]; omega, HFS.out.symm, rfl⟩)⟩, HR9.out, by rw [HGC.out]; exact HB9.out⟩
    have hl5 := HL5.out
    have hrow5 := HP5.out.row
    rw [hl5] at hrow5
    obtain ⟨b, o, rfl, hb, hm, hcs⟩ := RS.at_ (cl := Pg.cells) (s := 3) (fun _ => rfl) Pg.zero (⟨hrow5.reads, hl5⟩ : RS Pg.cells 3 w5 w5.heap.size A5 n gs5) hjn
    have hbt := (HP5.out.row.lt b rfl)
    rw [HT1.out] at hbt
    have hnS : ¬ ((gc + 1 ≤ b ∧ b < t0) ∨ t1 ≤ b) := by omega
    have x0 := (hfr.out.cell (p := ⟨b, o + j * 3 + 0, none⟩) hb hnS).trans (hcs 0 _ rfl)
    have x1 := (hfr.out.cell (p := ⟨b, o + j * 3 + 1, none⟩) hb hnS).trans (hcs 1 _ rfl)
    have x2 := (hfr.out.cell (p := ⟨b, o + j * 3 + 2, none⟩) hb hnS).trans (hcs 2 _ rfl)
    have hxo := HP5.out.own _ hm
    have hxw : ∀ k', (Value.slice (gs5.getD j Pg.zero).A (gs5.getD j Pg.zero).n (gs5.getD j Pg.zero).c).ownBlock = some k' → t0 ≤ k' ∧ k' < t1 := fun k' hk' => by
      have h1 := (hxo.1.2 k' hk').1
      have h2 := hxo.1.lt hk'
      rw [HT1.out] at h2
      exact ⟨h1, h2⟩
    have hxr := hxo.1.fr hfr.out (fun k' hk' => by have := hxw k' hk'; omega)
    have hpo := page_ok HX.out HK5.out HXL.out (show j < gs.length by omega)
    have HXN := Lib.hid (xsJ_next (e := e) (n := n) (show j < gs5.length by omega))
    unfold pageS Pg.key at HXN
    clear hcs hm hxo hrow5
    generalize gs5.getD j Pg.zero = x at *
    obtain ⟨p, r, gA, gn, gcp, gxs⟩ := x
    dsimp only at x0 x1 x2 hxw hxr hpo HXN
    rw [Nat.add_zero] at x0
    obtain ⟨hp0, hp1, hr0, hr1, hgl⟩ := hpo
    have hgn : gxs.length = gn := hxr.1.len
    rw [hgn] at hgl HXN
    have hwp : IntKind.u8.wrap p = p := by rw [IntKind.wrap_u8]; omega
    have hwr : IntKind.u8.wrap r = r := by rw [IntKind.wrap_u8]; omega
    have hwl : IntKind.u8.wrap (gn : Int) = gn := by rw [IntKind.wrap_u8]; omega
    have HXM : Hid ((xsJ e n gs5 (j + 1)).map (Value.int .u8) = (xsJ e n gs5 j).map (Value.int .u8) ++ [p, r, (gn : Int)].map (Value.int .u8) ++ gxs.map (Value.int .u8)) := Lib.hid (by
      rw [HXN.out, show p % 256 = p by omega, show r % 256 = r by omega, show (gn : Int) % 256 = gn by omega, List.map_append, List.map_append, List.append_assoc])
    obtain ⟨w6, hw6⟩ : ∃ w6, w6 = wr.alloc (.cells #[.int .i64 p, .int .i64 r, .slice gA gn gcp] 41) := ⟨_, rfl⟩
    obtain ⟨g5, hg5⟩ : ∃ g, wr.heap.size = g := ⟨_, rfl⟩
    have hb6 : Below wr.heap.size wr w6 := by rw [hw6]; exact (Below.refl _ _).alloc (Nat.le_refl _) _
    have hpb : Blk w6 g5 #[.int .i64 p, .int .i64 r, .slice gA gn gcp] 41 := by rw [hw6, ← hg5]; exact Blk.new _ _ _
    have hs6 : w6.heap.size = g5 + 1 := by rw [hw6, ← hg5]; simp
    have hrow6 := hrow.out.grow hb6
    have hx6 := hxr.grow hb6
    have hpc := hpb.cell
    have hpl := hpb.lt
    have HW6 := Lib.hid hw6
    have HS6 := Lib.hid hs6
    have hs6' : g5 < w6.heap.size := by omega
    have HR6 := Lib.hid hrow6
    have hlow : ∀ k', (Value.slice A6 k c6).ownBlock = some k' → gc + 1 ≤ k' ∧ k' < g5 := fun k' hk' => by have := hrow.out.lt k' hk'; omega
    have KEY := Lib.hid (fun (w7 : World) (hg7 : (w6.drew.alloc (.cells #[.int .u8 p, .int .u8 r, .int .u8 (gn : Int)] 5)).grownBy w7 (Value.slice A6 k c6).ownBlock) =>
      (show Blk w7 g5 #[.int .i64 p, .int .i64 r, .slice gA gn gcp] 41 ∧ OwnBs w7 t0 gA gn gcp gxs from by
        have h1 : Fr (fun k' => (Value.slice A6 k c6).ownBlock = some k') w6 w7 := (((Fr.refl (fun k' => (Value.slice A6 k c6).ownBlock = some k') w6).drew).alloc _).grown hg7 (fun k' e _ => e)
        exact ⟨hpb.fr h1 (fun e => by have := hlow _ e; omega), hx6.fr h1 (fun k' hk' e => by have := hxw k' hk'; have := hown.out k' e; omega)⟩))
    have KEY2 := Lib.hid (fun (w7 w8 : World) (A7 A8 : Option Addr) (c7 c8 : Nat) (hg7 : (w6.drew.alloc (.cells #[.int .u8 p, .int .u8 r, .int .u8 (gn : Int)] 5)).grownBy w7 (Value.slice A6 k c6).ownBlock) (hr7 : Row w7 (gc + 1) 5 1 (.slice A7 (k + 3) c7) (k + 3) ((xsJ e n gs5 j).map (Value.int .u8) ++ [p, r, (gn : Int)].map (Value.int .u8)))
        (ho7 : (Value.slice A7 (k + 3) c7).ownBlock = (Value.slice A6 k c6).ownBlock ∨ (Value.slice A7 (k + 3) c7).ownBlock = some (w6.drew.alloc (.cells #[.int .u8 p, .int .u8 r, .int .u8 (gn : Int)] 5)).heap.size)
        (hg8 : w7.grownBy w8 (Value.slice A7 (k + 3) c7).ownBlock) (ho8 : (Value.slice A8 (k + 3 + gn) c8).ownBlock = (Value.slice A7 (k + 3) c7).ownBlock ∨ (Value.slice A8 (k + 3 + gn) c8).ownBlock = some w7.heap.size) =>
      (show (∀ k', (Value.slice A8 (k + 3 + gn) c8).ownBlock = some k' → k' < t0 ∨ t1 ≤ k') ∧ Fr (fun k' => (gc + 1 ≤ k' ∧ k' < t0) ∨ t1 ≤ k') w5 w8 from by
        have hz1 : t1 ≤ g5 := by have := HT1.out; omega
        have hz7 : w6.heap.size ≤ w7.heap.size := by have := hg7.size; simp at this; omega
        have h7 : ∀ k', (Value.slice A7 (k + 3) c7).ownBlock = some k' → (gc + 1 ≤ k' ∧ k' < t0) ∨ t1 ≤ k' := fun k' hk' => by
          rcases ho7 with e1 | e1
          · rw [e1] at hk'
            have h1 := hlow k' hk'
            have h2 := hown.out k' hk'
            omega
          · rw [e1] at hk'
            injection hk' with hk'
            simp at hk'
            omega
        refine ⟨fun k' hk' => ?_, ?_⟩
        · rcases ho8 with e1 | e1
          · rw [e1] at hk'
            have := h7 k' hk'
            omega
          · rw [e1] at hk'
            injection hk' with hk'
            omega
        · have f6 : Fr (fun k' => (gc + 1 ≤ k' ∧ k' < t0) ∨ t1 ≤ k') wr w6 := (Fr.of_below hb6).mono (fun k' _ h => by omega)
          have f7 : Fr (fun k' => (gc + 1 ≤ k' ∧ k' < t0) ∨ t1 ≤ k') w6 w7 := (((Fr.refl _ w6).drew).alloc _).grown hg7 (fun k' e _ => by have h1 := hlow k' e; have h2 := hown.out k' e; omega)
          have f8 : Fr (fun k' => (gc + 1 ≤ k' ∧ k' < t0) ∨ t1 ≤ k') w7 w8 := (Fr.refl _ w7).grown hg8 (fun k' e _ => h7 k' e)
          exact ((hfr.out.trans' f6).trans' f7).trans' f8))
    have hkn : (j : Int) < n := by omega
    have hk0 : (0 : Int) ≤ j := by omega
    have hgk : gc + 1 ≤ w6.heap.size := by omega
    clear hw6 hs6 hb6 hrow6 hlow hxr hx6 hpb
    go_wp2_with fail
    rw [← HW6.out]
    clear HW6 hg5
    go_region_law (first | (refine step_append_row rfl (.tmp 34) (.tmp 45) 26 rfl (gc + 1) 5 i0 (.int .u8 0) 1 1 Tryd.underlying26 hi hz0 hz1 hz2 rfl (by decide) (.slice A6 k c6) k ((xsJ e n gs5 j).map (Value.int .u8)) (by simp [Act.eval, Act.put]) (HR6.out.drew.alloc _) (w6.drew.heap.size + 1) (some ⟨w6.drew.heap.size, 0, none⟩) 3 3 ([p, r, (gn : Int)].map (Value.int .u8)) (by simp [Act.eval, Act.put]) (reads_cells w6.drew 5 ([p, r, (gn : Int)].map (Value.int .u8)) (m := 3) (size := 1) rfl) (one_i _) (by unfold maxLen; omega) (by omega) (by simp; omega) ?_; intro A7 c7 w7 hr7 hg7 ho7; obtain ⟨hp7, hx7⟩ := KEY.out w7 hg7; have p7c := hp7.cell; have p7l := hp7.lt; have hs7 : gc + 1 ≤ w7.heap.size := by have := hg7.size; simp at this; omega) | (refine step_append_row rfl (.tmp 46) (.tmp 48) 26 rfl (gc + 1) 5 i0 (.int .u8 0) 1 1 Tryd.underlying26 hi hz0 hz1 hz2 rfl (by decide) (.slice A7 (k + 3) c7) (k + 3) ((xsJ e n gs5 j).map (Value.int .u8) ++ [p, r, (gn : Int)].map (Value.int .u8)) (by simp [Act.eval, Act.put]) hr7 w7.heap.size gA gn gcp (gxs.map (Value.int .u8)) (by simp [Act.eval, Act.put]) hx7.1.1 (one_i _) (by unfold maxLen; omega) (by omega) hs7 ?_; intro A8 c8 w8 hr8 hg8 ho8) | fail)
    all_goals
      obtain ⟨q1, q2⟩ := KEY2.out w7 w8 A7 A8 c7 c8 hg7 hr7 ho7 hg8 ho8
      have Q1 := Lib.hid q1
      have Q2 := Lib.hid q2
      have HR8 : Hid (Row w8 (gc + 1) 5 1 (.slice A8 (k + 3 + gn) c8) (k + 3 + gn) ((xsJ e n gs5 (j + 1)).map (Value.int .u8))) := Lib.hid (by rw [HXM.out]; exact hr8)
      clear hr7 hg7 ho7 hp7 hx7 p7c p7l hs7 hr8 hg8 ho8 q1 q2 KEY KEY2
      go_wp2
      go_roundw
      case rel => exact ⟨j + 1, k + 3 + gn, A8, c8, by omega, by go_num, rfl, by omega, HR8, Q1, Q2⟩
      case measure => simp [intOf]; omega
end Go.Proofs.YtdgjcjhdclihpaaDoor
