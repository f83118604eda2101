/- Contract of obj.Check. -/
import Derived.Test.YtplfdibbnkjckaaObB
import Derived.Test.YtplfdibbnkjckaaMapF
import Derived.Deep.RegionLaw
namespace Go.Proofs.Ytplfdibbnkjckaa
open Go.RowKit
set_option maxHeartbeats 400000
set_option linter.unusedVariables false
set_option linter.unusedSimpArgs false
set_option maxHeartbeats 4000000 in
set_option maxRecDepth 100000 in
theorem check_any (o : Ob) (w : World) (B : Nat) (h : o.Read w B) (hB : B ≤ w.heap.size) : Calls Try.prog 15 #[.agg o.vals] w (ErrPost w (objErr o)) := by
  by_cases hbig : 128 < o.n0 ∨ 256 < o.n1 ∨ 24 < o.n2 ∨ 40 < o.n3
  · exact check_big o w B h hbig
  have hob : Hid (Blk (w.alloc (.cells o.vals 37)) w.heap.size o.vals 37) := Lib.hid (Blk.new _ _ _)
  have HO : Hid (objErr o = if nmsErr o.n0 o.n1 [] o.ns = 0 then ndsErr o.n0 (-1) o.ds else nmsErr o.n0 o.n1 [] o.ns) := Lib.hid (by unfold objErr; rw [if_neg hbig])
  have hsz : ∀ g wh w (x : Int), Blk w g o.vals 37 → sizeI o.n0 o.n1 wh = x → Calls Try.prog 22 #[.pointer (some ⟨g, 0, none⟩), .int .i64 wh] w fun e w' => e = .returned (.int .i64 x) ∧ w' = w := fun g wh w x hh hx => size_is o g wh w hh (by omega) hx
  have HSZ := Lib.hid hsz
  clear hsz
  obtain ⟨A0, n0, c0, A1, n1, c1, A2, n2, c2, A3, n3, c3, ns, ds⟩ := o
  obtain ⟨rn, rd, m0, m1, m2, m3⟩ := h
  dsimp only at rn rd m0 m1 m2 m3 hbig
  dsimp only [Ob.vals] at hob HSZ HO ⊢
  have HLN := Lib.hid rn.len
  have HLD := Lib.hid rd.len
  have h0 : n0 ≤ 128 := by omega
  have h1 : n1 ≤ 256 := by omega
  have h2 : n2 ≤ 24 := by omega
  have h3 : n3 ≤ 40 := by omega
  clear hbig
  have hmm := @run_makeMap Try.prog
  go_enter Try.func15, Try.ntmps15
  go_wp2
  go_loopw [34] (fun i wr => ∃ k : Nat, k ≤ n2 ∧ i = .int .i64 k ∧ Hid (nmsErr n0 n1 [] ns = nmsErr n0 n1 (keysTo ns k) (ns.drop k)) ∧ Hid (Blk wr w.heap.size #[.slice A0 n0 c0, .slice A1 n1 c1, .slice A2 n2 c2, .slice A3 n3 c3] 37) ∧ Hid (TextSet Try.prog wr 9 4 (w.heap.size + 1) k (keysTo ns k)) ∧ Below w.heap.size w wr) (fun i _ => n2 - (intOf i).toNat)
  case atStart => exact ⟨0, by omega, rfl, Lib.hid rfl, Lib.hid (hob.out.alloc _), Lib.hid (by have := TextSet.made Try.prog (w.alloc (.cells #[.slice A0 n0 c0, .slice A1 n1 c1, .slice A2 n2 c2, .slice A3 n3 c3] 37)) 9 4; simp at this; exact this), ((Below.refl _ _).alloc (Nat.le_refl _) _).alloc (by simp) _⟩
  case round =>
    clear hob
    obtain ⟨k, hk, rfl, hrest, hblk, hset, hbw⟩ := hrel
    have hsize := hbw.size
    by_cases hlt : k < n2
    · obtain ⟨b, o, rfl, hb, hfine, z0, z1, z2, z3⟩ := (rn.below' hbw hB).at_ hlt
      have hst := Lib.hid (hrest.out.trans (nms_step (ns := ns) (k := k) (by rw [HLN.out]; exact hlt)))
      have hks := Lib.hid (keysTo_succ (ns := ns) (k := k) (by rw [HLN.out]; exact hlt))
      have hcells := (hblk.out).cell
      have hcb := hblk.out.lt
      generalize keysTo ns k = ks at *
      generalize ns.getD k .zero = x at *
      obtain ⟨s, wh, ad, wk⟩ := x
      obtain ⟨hs, hwh, had⟩ := hfine
      dsimp only at hs hwh had z0 z1 z2 z3
      have hadr := i64_range had
      have hbn : Below w.heap.size w (wr.alloc (.cells #[.string s, .int .i64 wh, .int .i64 ad, .bool wk] 39)) := hbw.alloc hsize _
      have hblkn := Lib.hid (hblk.out.alloc (.cells #[.string s, .int .i64 wh, .int .i64 ad, .bool wk] 39))
      have hsetn := Lib.hid (hset.out.alloc (.cells #[.string s, .int .i64 wh, .int .i64 ad, .bool wk] 39))
      have bad : Hid (nmB n0 n1 ⟨s, wh, ad, wk⟩ = false → objErr ⟨A0, n0, c0, A1, n1, c1, some ⟨b, o, none⟩, n2, c2, A3, n3, c3, ns, ds⟩ = 3) := Lib.hid (fun hh => by rw [HO.out, hst.out, hh]; simp)
      clear hrest hblk hset hbw
      have hwhr := i64_range hwh
      generalize hse : sizeI n0 n1 wh = se at *
      have HSE := Lib.hid hse
      clear hse
      cases hnb : nameB (nums s) with
      | false =>
        have HNB := Lib.hid hnb
        have e := Lib.hid (bad.out (by unfold nmB; dsimp only; rw [hnb]; rfl))
        clear hnb
        as_aux_lemma =>
          go_wp2
          refine wp_region_quiet_lit (by kernel_rfl) (by kernel_rfl) ?_
          repeat (go_big_quiet_step (first | (go_at_call 21; exact Calls.quiet_of_same (name_is _ _ hs HNB.out)) | (go_at_call 22; exact Calls.quiet_of_same (HSZ.out _ _ _ _ (hblkn.out.drewN _) HSE.out))))
          refine wpQuiet_nil ?_
          intro _ hw'
          obtain ⟨nq, hw''⟩ := hw'
          subst hw''
          go_wp2
          go_ret
          exact ⟨ob_int e.out.symm, below_drewN hbn _⟩
      | true =>
        have HNB := Lib.hid hnb
        by_cases p1 : ad < 0
        · have e := Lib.hid (bad.out (by unfold nmB; dsimp only; rw [hnb, HSE.out]; simp; omega))
          clear hnb
          as_aux_lemma =>
            go_wp2
            refine wp_region_quiet_lit (by kernel_rfl) (by kernel_rfl) ?_
            repeat (go_big_quiet_step (first | (go_at_call 21; exact Calls.quiet_of_same (name_is _ _ hs HNB.out)) | (go_at_call 22; exact Calls.quiet_of_same (HSZ.out _ _ _ _ (hblkn.out.drewN _) HSE.out))))
            refine wpQuiet_nil ?_
            intro _ hw'
            obtain ⟨nq, hw''⟩ := hw'
            subst hw''
            go_wp2
            go_ret
            exact ⟨ob_int e.out.symm, below_drewN hbn _⟩
        have dp1 : decide (ad < 0) = false := by simpa using p1
        by_cases p2 : se < ad
        · have e := Lib.hid (bad.out (by unfold nmB; dsimp only; rw [hnb, HSE.out]; simp; omega))
          clear hnb
          as_aux_lemma =>
            go_wp2
            refine wp_region_quiet_lit (by kernel_rfl) (by kernel_rfl) ?_
            repeat (go_big_quiet_step (first | (go_at_call 21; exact Calls.quiet_of_same (name_is _ _ hs HNB.out)) | (go_at_call 22; exact Calls.quiet_of_same (HSZ.out _ _ _ _ (hblkn.out.drewN _) HSE.out))))
            refine wpQuiet_nil ?_
            intro _ hw'
            obtain ⟨nq, hw''⟩ := hw'
            subst hw''
            go_wp2
            go_ret
            exact ⟨ob_int e.out.symm, below_drewN hbn _⟩
        have dp2 : decide (se < ad) = false := by simpa using p2
        by_cases p3 : wh = 1
        · by_cases p4 : ad % 4 = 0
          · have good : Hid (nmB n0 n1 ⟨s, wh, ad, wk⟩ = true) := Lib.hid (by unfold nmB; dsimp only; rw [hnb, HSE.out]; simp; omega)
            have d3 : (wh == 1) = true := by simpa using p3
            have htm : ad.tmod 4 = ad % 4 := Int.tmod_eq_emod_of_nonneg (by omega)
            have d4 : (ad % 4 != 0) = false := by simpa using p4
            clear hnb p3 p4
            as_aux_lemma =>
              go_wp2
              refine wp_region_quiet_lit (by kernel_rfl) (by kernel_rfl) ?_
              repeat (go_big_quiet_step (first | (go_at_call 21; exact Calls.quiet_of_same (name_is _ _ hs HNB.out)) | (go_at_call 22; exact Calls.quiet_of_same (HSZ.out _ _ _ _ (hblkn.out.drewN _) HSE.out))))
              refine wpQuiet_nil ?_
              intro _ hw'
              obtain ⟨nq, hw''⟩ := hw'
              subst hw''
              cases hct : ks.contains (Nm.key ⟨s, wh, ad, wk⟩) with
              | true =>
                have e : Hid (objErr ⟨A0, n0, c0, A1, n1, c1, some ⟨b, o, none⟩, n2, c2, A3, n3, c3, ns, ds⟩ = 5) := Lib.hid (by rw [HO.out, hst.out, good.out, hct]; simp)
                go_wp2_with (at_lookup; refine wpList_lookup_set _ rfl _ _ 31 rfl 9 4 Try.underlying9 Try.underlying4 Try.underlying31 (zero4 _) (w.heap.size + 1) k ks rfl (hsetn.out.drewN _) s rfl (by unfold maxLen; omega) true hct ?_)
                go_ret
                exact ⟨ob_int e.out.symm, below_drewN hbn _⟩
              | false =>
                have e : Hid (nmsErr n0 n1 [] ns = nmsErr n0 n1 (keysTo ns (k + 1)) (ns.drop (k + 1))) := Lib.hid (by rw [hst.out, good.out, hct]; simp)
                go_wp2_with (first | (at_lookup; refine wpList_lookup_set _ rfl _ _ 31 rfl 9 4 Try.underlying9 Try.underlying4 Try.underlying31 (zero4 _) (w.heap.size + 1) k ks rfl (hsetn.out.drewN _) s rfl (by unfold maxLen; omega) false hct ?_) | (at_mapUpdate; refine wpList_update_set _ rfl _ _ _ 31 rfl 9 4 Try.underlying9 Try.underlying4 Try.underlying31 (w.heap.size + 1) k ks rfl (hsetn.out.drewN _) (by unfold maxLen; omega) s rfl rfl (by unfold maxLen; omega) ?_))
                intro w1 hs1 hg1
                have hb1 : Below w.heap.size w w1 := (below_drewN hbn _).grown hg1 hbn.size (fun k hk => by injection hk with hk; omega)
                have hblk1 := (hblkn.out.drewN nq).grown hg1 (by simp)
                clear hg1
                go_wp2
                go_roundw
                case rel => exact ⟨k + 1, by omega, by go_num, e, Lib.hid hblk1, Lib.hid (by rw [hks.out]; exact hs1), hb1⟩
                case measure => simp [intOf]; omega
          · have e := Lib.hid (bad.out (by unfold nmB; dsimp only; rw [hnb, HSE.out]; simp; omega))
            have d3 : (wh == 1) = true := by simpa using p3
            have htm : ad.tmod 4 = ad % 4 := Int.tmod_eq_emod_of_nonneg (by omega)
            have d4 : (ad % 4 != 0) = true := by simpa using p4
            clear hnb p3 p4
            as_aux_lemma =>
              go_wp2
              refine wp_region_quiet_lit (by kernel_rfl) (by kernel_rfl) ?_
              repeat (go_big_quiet_step (first | (go_at_call 21; exact Calls.quiet_of_same (name_is _ _ hs HNB.out)) | (go_at_call 22; exact Calls.quiet_of_same (HSZ.out _ _ _ _ (hblkn.out.drewN _) HSE.out))))
              refine wpQuiet_nil ?_
              intro _ hw'
              obtain ⟨nq, hw''⟩ := hw'
              subst hw''
              go_wp2
              go_ret
              exact ⟨ob_int e.out.symm, below_drewN hbn _⟩
        · have good : Hid (nmB n0 n1 ⟨s, wh, ad, wk⟩ = true) := Lib.hid (by unfold nmB; dsimp only; rw [hnb, HSE.out]; simp; omega)
          have d3 : (wh == 1) = false := by simpa using p3
          clear hnb p3
          as_aux_lemma =>
            go_wp2
            refine wp_region_quiet_lit (by kernel_rfl) (by kernel_rfl) ?_
            repeat (go_big_quiet_step (first | (go_at_call 21; exact Calls.quiet_of_same (name_is _ _ hs HNB.out)) | (go_at_call 22; exact Calls.quiet_of_same (HSZ.out _ _ _ _ (hblkn.out.drewN _) HSE.out))))
            refine wpQuiet_nil ?_
            intro _ hw'
            obtain ⟨nq, hw''⟩ := hw'
            subst hw''
            cases hct : ks.contains (Nm.key ⟨s, wh, ad, wk⟩) with
            | true =>
              have e : Hid (objErr ⟨A0, n0, c0, A1, n1, c1, some ⟨b, o, none⟩, n2, c2, A3, n3, c3, ns, ds⟩ = 5) := Lib.hid (by rw [HO.out, hst.out, good.out, hct]; simp)
              go_wp2_with (at_lookup; refine wpList_lookup_set _ rfl _ _ 31 rfl 9 4 Try.underlying9 Try.underlying4 Try.underlying31 (zero4 _) (w.heap.size + 1) k ks rfl (hsetn.out.drewN _) s rfl (by unfold maxLen; omega) true hct ?_)
              go_ret
              exact ⟨ob_int e.out.symm, below_drewN hbn _⟩
            | false =>
              have e : Hid (nmsErr n0 n1 [] ns = nmsErr n0 n1 (keysTo ns (k + 1)) (ns.drop (k + 1))) := Lib.hid (by rw [hst.out, good.out, hct]; simp)
              go_wp2_with (first | (at_lookup; refine wpList_lookup_set _ rfl _ _ 31 rfl 9 4 Try.underlying9 Try.underlying4 Try.underlying31 (zero4 _) (w.heap.size + 1) k ks rfl (hsetn.out.drewN _) s rfl (by unfold maxLen; omega) false hct ?_) | (at_mapUpdate; refine wpList_update_set _ rfl _ _ _ 31 rfl 9 4 Try.underlying9 Try.underlying4 Try.underlying31 (w.heap.size + 1) k ks rfl (hsetn.out.drewN _) (by unfold maxLen; omega) s rfl rfl (by unfold maxLen; omega) ?_))
              intro w1 hs1 hg1
              have hb1 : Below w.heap.size w w1 := (below_drewN hbn _).grown hg1 hbn.size (fun k hk => by injection hk with hk; omega)
              have hblk1 := (hblkn.out.drewN nq).grown hg1 (by simp)
              clear hg1
              go_wp2
              go_roundw
              case rel => exact ⟨k + 1, by omega, by go_num, e, Lib.hid hblk1, Lib.hid (by rw [hks.out]; exact hs1), hb1⟩
              case measure => simp [intOf]; omega
    · obtain rfl : n2 = k := by omega
      as_aux_lemma =>
      have hz : Hid (nmsErr n0 n1 [] ns = 0) := Lib.hid (by rw [hrest.out, List.drop_eq_nil_of_le (by rw [HLN.out]; exact Nat.le_refl _)]; rfl)
      have HO2 : Hid (objErr ⟨A0, n0, c0, A1, n1, c1, A2, n2, c2, A3, n3, c3, ns, ds⟩ = ndsErr n0 (-1) ds) := Lib.hid (by rw [HO.out, hz.out]; simp)
      have hcells := (hblk.out).cell
      clear hset hrest HO hz HLN
      obtain ⟨l4, hl4⟩ : ∃ l4 : Int, 4 * (n0 : Int) = l4 := ⟨_, rfl⟩
      have HL4 := Lib.hid hl4
      have hl40 : 0 ≤ l4 ∧ l4 ≤ 512 := by omega
      have hw4 : IntKind.i64.wrap (4 * (n0 : Int)) = l4 := (IntWalk.i64_in _ (by omega)).trans hl4
      clear hl4
      have hcb := hblk.out.lt
      go_wp2
      clear hcells hcb
      obtain ⟨wo, hwo⟩ : ∃ wo : World, wo = wr := ⟨_, rfl⟩
      subst hwo
      go_loopw [77] (fun i wr => ∃ k : Nat, k ≤ n3 ∧ i = .int .i64 k ∧ Hid (ndsErr n0 (-1) ds = ndsErr n0 (lastTo ds k) (ds.drop k)) ∧ Hid (Blk wr w.heap.size #[.slice A0 n0 c0, .slice A1 n1 c1, .slice A2 n2 c2, .slice A3 n3 c3] 37) ∧ Below w.heap.size w wr) (fun i _ => n3 - (intOf i).toNat)
      case atStart => exact ⟨0, by omega, rfl, Lib.hid rfl, hblk, hbw⟩
      case round =>
        clear hblk hbw
        obtain ⟨k, hk, rfl, hrest, hblk, hbw⟩ := hrel
        have hsize := hbw.size
        by_cases hlt : k < n3
        · obtain ⟨b, o, rfl, hb, hfine, z0, z1, z2⟩ := (rd.below' hbw hB).at_ hlt
          have hst := Lib.hid (hrest.out.trans (nds_step (ds := ds) (k := k) (by rw [HLD.out]; exact hlt)))
          have hcells := (hblk.out).cell
          have hcb := hblk.out.lt
          have hbb : b < wr.heap.size := by omega
          have hprev : ∀ j, k = j + 1 → lastTo ds k = (ds.getD j .zero).ad ∧ wr.cell? ⟨b, o + j * 3, none⟩ = some (.int .i64 (ds.getD j .zero).ad) := fun j hj => by
            obtain ⟨b', o', e, _, _, y0, _⟩ := (rd.below' hbw hB).at_ (i := j) (by omega)
            cases e
            refine ⟨?_, y0⟩
            unfold lastTo; rw [if_neg (by omega), hj, Nat.add_sub_cancel]
          have HPREV := Lib.hid hprev
          clear hprev
          generalize ds.getD k .zero = x at *
          obtain ⟨ad, s, kd⟩ := x
          obtain ⟨hs, had, hkd⟩ := hfine
          dsimp only at hs had hkd z0 z1 z2
          have hadr := i64_range had
          have hbn : Below w.heap.size w (wr.alloc (.cells #[.int .i64 ad, .string s, .int .i64 kd] 41)) := hbw.alloc hsize _
          have hblkn := Lib.hid (hblk.out.alloc (.cells #[.int .i64 ad, .string s, .int .i64 kd] 41))
          have bad : Hid (ndB n0 (lastTo ds k) ⟨ad, s, kd⟩ = false → ndsErr n0 (-1) ds = 3) := Lib.hid (fun hh => by rw [hst.out, hh]; simp)
          have good : Hid (ndB n0 (lastTo ds k) ⟨ad, s, kd⟩ = true → ndsErr n0 (-1) ds = ndsErr n0 (lastTo ds (k + 1)) (ds.drop (k + 1))) := Lib.hid (fun hh => by rw [hst.out, hh]; simp)
          clear hrest hblk hbw hst
          cases hnb : nameB (nums s) with
          | false =>
            have HNB := Lib.hid hnb
            have e := Lib.hid (bad.out (by unfold ndB; dsimp only; rw [hnb]; rfl))
            clear hnb
            as_aux_lemma =>
              go_wp2
              refine wp_region_quiet_lit (by kernel_rfl) (by kernel_rfl) ?_
              repeat (go_big_quiet_step ((go_at_call 21; exact Calls.quiet_of_same (name_is _ _ hs HNB.out))))
              refine wpQuiet_nil ?_
              intro _ hw'
              obtain ⟨nq, hw''⟩ := hw'
              subst hw''
              go_wp2
              go_ret
              exact ⟨ob_int (HO2.out.trans e.out).symm, below_drewN hbn _⟩
          | true =>
            have HNB := Lib.hid hnb
            by_cases q : kd < 1
            · have e := Lib.hid (bad.out (by unfold ndB; dsimp only; rw [hnb, HL4.out]; simp; omega))
              clear hnb
              as_aux_lemma =>
                go_wp2
                refine wp_region_quiet_lit (by kernel_rfl) (by kernel_rfl) ?_
                repeat (go_big_quiet_step ((go_at_call 21; exact Calls.quiet_of_same (name_is _ _ hs HNB.out))))
                refine wpQuiet_nil ?_
                intro _ hw'
                obtain ⟨nq, hw''⟩ := hw'
                subst hw''
                go_wp2
                go_ret
                exact ⟨ob_int (HO2.out.trans e.out).symm, below_drewN hbn _⟩
            have dq1 : decide (kd < 1) = false := by simpa using q
            by_cases q : 3 < kd
            · have e := Lib.hid (bad.out (by unfold ndB; dsimp only; rw [hnb, HL4.out]; simp; omega))
              clear hnb
              as_aux_lemma =>
                go_wp2
                refine wp_region_quiet_lit (by kernel_rfl) (by kernel_rfl) ?_
                repeat (go_big_quiet_step ((go_at_call 21; exact Calls.quiet_of_same (name_is _ _ hs HNB.out))))
                refine wpQuiet_nil ?_
                intro _ hw'
                obtain ⟨nq, hw''⟩ := hw'
                subst hw''
                go_wp2
                go_ret
                exact ⟨ob_int (HO2.out.trans e.out).symm, below_drewN hbn _⟩
            have dq2 : decide (3 < kd) = false := by simpa using q
            by_cases q : ad < 0
            · have e := Lib.hid (bad.out (by unfold ndB; dsimp only; rw [hnb, HL4.out]; simp; omega))
              clear hnb
              as_aux_lemma =>
                go_wp2
                refine wp_region_quiet_lit (by kernel_rfl) (by kernel_rfl) ?_
                repeat (go_big_quiet_step ((go_at_call 21; exact Calls.quiet_of_same (name_is _ _ hs HNB.out))))
                refine wpQuiet_nil ?_
                intro _ hw'
                obtain ⟨nq, hw''⟩ := hw'
                subst hw''
                go_wp2
                go_ret
                exact ⟨ob_int (HO2.out.trans e.out).symm, below_drewN hbn _⟩
            have dq3 : decide (ad < 0) = false := by simpa using q
            by_cases q : l4 ≤ ad
            · have e := Lib.hid (bad.out (by unfold ndB; dsimp only; rw [hnb, HL4.out]; simp; omega))
              clear hnb
              as_aux_lemma =>
                go_wp2
                refine wp_region_quiet_lit (by kernel_rfl) (by kernel_rfl) ?_
                repeat (go_big_quiet_step ((go_at_call 21; exact Calls.quiet_of_same (name_is _ _ hs HNB.out))))
                refine wpQuiet_nil ?_
                intro _ hw'
                obtain ⟨nq, hw''⟩ := hw'
                subst hw''
                go_wp2
                go_ret
                exact ⟨ob_int (HO2.out.trans e.out).symm, below_drewN hbn _⟩
            have dq5 : decide (l4 ≤ ad) = false := by simpa using q
            have htm : ad.tmod 4 = ad % 4 := Int.tmod_eq_emod_of_nonneg (by omega)
            by_cases q4 : ad % 4 = 0
            rotate_left
            · have e := Lib.hid (bad.out (by unfold ndB; dsimp only; rw [hnb, HL4.out]; simp; omega))
              have d4 : (ad % 4 != 0) = true := by simpa using q4
              clear hnb q4
              as_aux_lemma =>
                go_wp2
                refine wp_region_quiet_lit (by kernel_rfl) (by kernel_rfl) ?_
                repeat (go_big_quiet_step ((go_at_call 21; exact Calls.quiet_of_same (name_is _ _ hs HNB.out))))
                refine wpQuiet_nil ?_
                intro _ hw'
                obtain ⟨nq, hw''⟩ := hw'
                subst hw''
                go_wp2
                go_ret
                exact ⟨ob_int (HO2.out.trans e.out).symm, below_drewN hbn _⟩
            have d4 : (ad % 4 != 0) = false := by simpa using q4
            rcases k with _ | j
            · simp only [Nat.zero_mul, Nat.add_zero] at z0 z1 z2
              have e := Lib.hid (good.out (by unfold ndB; dsimp only; rw [hnb, HL4.out]; unfold lastTo; simp; omega))
              clear hnb q4
              as_aux_lemma =>
                go_wp2
                refine wp_region_quiet_lit (by kernel_rfl) (by kernel_rfl) ?_
                repeat (go_big_quiet_step ((go_at_call 21; exact Calls.quiet_of_same (name_is _ _ hs HNB.out))))
                refine wpQuiet_nil ?_
                intro _ hw'
                obtain ⟨nq, hw''⟩ := hw'
                subst hw''
                go_wp2
                go_roundw
                case rel => exact ⟨0 + 1, by omega, by go_num, e, Lib.hid (hblkn.out.drewN nq), below_drewN hbn _⟩
                case measure => simp [intOf]; omega
            · obtain ⟨hl, hpc⟩ := HPREV.out j rfl
              generalize (ds.getD j .zero).ad = pv at *
              have HLA := Lib.hid hl
              clear hl
              have hj0 : (0 : Int) ≤ j := by omega
              have hj1 : (j : Int) < n3 := by omega
              have hj2 : IntKind.i64.wrap (j : Int) = j := IntWalk.i64_in _ (by omega)
              have hj3 : IntKind.i64.wrap ((j : Int) + 1 - 1) = j := by rw [Int.add_sub_cancel]; exact hj2
              have dj : decide (0 < (j : Int) + 1) = true := by simp <;> omega
              by_cases q5 : ad ≤ pv
              · have e := Lib.hid (bad.out (by unfold ndB; dsimp only; rw [hnb, HLA.out, HL4.out]; simp; omega))
                clear hnb q4
                as_aux_lemma =>
                  go_wp2
                  refine wp_region_quiet_lit (by kernel_rfl) (by kernel_rfl) ?_
                  repeat (go_big_quiet_step ((go_at_call 21; exact Calls.quiet_of_same (name_is _ _ hs HNB.out))))
                  refine wpQuiet_nil ?_
                  intro _ hw'
                  obtain ⟨nq, hw''⟩ := hw'
                  subst hw''
                  go_wp2
                  go_ret
                  exact ⟨ob_int (HO2.out.trans e.out).symm, below_drewN hbn _⟩
              · have dq6 : decide (ad ≤ pv) = false := by simpa using q5
                have e := Lib.hid (good.out (by unfold ndB; dsimp only; rw [hnb, HLA.out, HL4.out]; simp; omega))
                clear hnb q4
                as_aux_lemma =>
                  go_wp2
                  refine wp_region_quiet_lit (by kernel_rfl) (by kernel_rfl) ?_
                  repeat (go_big_quiet_step ((go_at_call 21; exact Calls.quiet_of_same (name_is _ _ hs HNB.out))))
                  refine wpQuiet_nil ?_
                  intro _ hw'
                  obtain ⟨nq, hw''⟩ := hw'
                  subst hw''
                  go_wp2
                  go_roundw
                  case rel => exact ⟨(j + 1) + 1, by omega, by go_num, e, Lib.hid (hblkn.out.drewN nq), below_drewN hbn _⟩
                  case measure => simp [intOf]; omega
        · obtain rfl : k = n3 := by omega
          have e : Hid (ndsErr n0 (-1) ds = 0) := Lib.hid (by rw [hrest.out, List.drop_eq_nil_of_le (by rw [HLD.out]; exact Nat.le_refl _)]; rfl)
          go_wp2
          go_ret
          exact ⟨ob_int (HO2.out.trans e.out).symm, hbw⟩
end Go.Proofs.Ytplfdibbnkjckaa
