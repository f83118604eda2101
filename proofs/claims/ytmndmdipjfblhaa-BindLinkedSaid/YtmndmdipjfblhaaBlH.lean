/- Contract of bind.Link. -/
import Derived.Test.YtmndmdipjfblhaaBlG
namespace Go.Proofs.Ytmndmdipjfblhaa
open Go.RowKit
set_option maxHeartbeats 400000
set_option linter.unusedVariables false
set_option linter.unusedSimpArgs false
theorem start_list : startB.toList = ([115, 116, 97, 114, 116] : List UInt8) := by rw [ByteArray.toList_eq]; rfl
theorem reads_sub {w : World} {B b o n a m : Nat} {xs : List Value} (h : Reads w B 1 (some ⟨b, o, none⟩) n xs) (hm : a + m ≤ n) : Reads w B 1 (some ⟨b, o + a, none⟩) m ((xs.drop a).take m) := by
  have hl := h.1
  refine ⟨by rw [List.length_take, List.length_drop]; omega, fun h0 => ?_⟩
  obtain ⟨b', o', e, hb, hc⟩ := h.2 (by omega)
  injection e with e
  injection e with e1 e2
  subst e1; subst e2
  refine ⟨b, o + a, rfl, hb, fun j u hu => ?_⟩
  rw [List.getElem?_take] at hu
  split at hu
  · rw [List.getElem?_drop] at hu
    rw [Nat.add_assoc]; exact hc _ u hu
  · cases hu
theorem infoPg : (Try.prog.info? 69).map (fun i => (i.zero, i.size, i.bytes)) = some (some (.agg #[.int .i64 0, .int .i64 0, .slice none 0 0]), 3, 40) := by kernel_rfl
theorem one_pg (g : Pg) : ∀ u ∈ g.cells, u.oneCell' = true := by
  intro u hu
  simp [Pg.cells] at hu
  rcases hu with rfl | rfl | rfl <;> rfl
set_option maxHeartbeats 4000000 in
set_option maxRecDepth 100000 in
theorem link_any (hchk : ∀ (o : Ob) (w : World) (B : Nat), o.Read w B → B ≤ w.heap.size → Calls Try.prog 21 #[.agg o.vals] w (ErrPost w (objErr o)))
    (A : Option Addr) (n c : Nat) (fs : List Fo) (w : World) (h : RF w w.heap.size A n fs) (hn : n ≤ 9223372036854775807) : Calls Try.prog 11 #[.slice A n c] w (ImPost w fs) := by
  obtain ⟨i0, hi, hz0, hz1, hz2⟩ := info_parts infoU8
  obtain ⟨i1, hi1, hz3, hz4, hz5⟩ := info_parts infoPg
  have HL := Lib.hid h.len
  have HR : RO w w.heap.size A n (osOf fs) := h.ro
  have HB := Lib.hid (fun W (hb : Below w.heap.size w W) => bytes_any hchk A n c fs W w.heap.size (h.below' hb (Nat.le_refl _)) hb.size hn)
  have HC := Lib.hid (fun W (hb : Below w.heap.size w W) => places_any hchk A n c (osOf fs) W w.heap.size (HR.below' hb (Nat.le_refl _)) hb.size hn)
  unfold ByPost at HB
  unfold PlPost at HC
  have hbz : Below w.heap.size w (w.alloc (.cells #[.int .u32 0, .slice none 0 0] 41)) := (Below.refl _ _).alloc (Nat.le_refl _) _
  have hres : Blk (w.alloc (.cells #[.int .u32 0, .slice none 0 0] 41)) w.heap.size #[.int .u32 0, .slice none 0 0] 41 := Blk.new _ _ _
  have HRES := Lib.hid hres
  by_cases hE : byErr fs = 0
  rotate_left
  · have e : Hid (lkErr fs = byErr fs) := Lib.hid (by unfold lkErr; rw [if_neg hE])
    generalize byErr fs = E at *
    have HE := Lib.hid hE
    have d : (E != 0) = true := by simpa using hE
    clear hE
    go_enter Try.func11, Try.ntmps11
    go_wp2_with fail
    refine (HB.out _ hbz).mono ?_
    rintro e' w3 ⟨v, rfl, hr3, hb3⟩
    have hr1 := hres.fr (Fr.of_grow hb3) (fun h => h)
    have hrc := hr1.cell
    have hrf := hr1.free
    have hrl := hr1.lt
    have hbf := Lib.hid (hbz.trans (hb3.mono hbz.size))
    clear hr3 hb3 hr1 hres hbz
    go_wp2_with fail
    exact bodyPost_ret (v := .tuple #[.agg #[.int .u32 0, .slice none 0 0], .int .i64 E]) (by simp [results, Try.results11, go_sem, hrc, hrl]) rfl (ImPost.bad e.out HE.out ((hbf.out.setCell (p := ⟨w.heap.size, 0, none⟩) (Nat.le_refl _) _).setCell (p := ⟨w.heap.size, 1, none⟩) (Nat.le_refl _) _))
  · obtain ⟨hpz, hbl⟩ := by_zero hE
    have hen := end_le hpz
    have HLE : Hid (lkErr fs = if 16 ≤ entF fs ∧ entF fs < endOf fs then 0 else 4) := Lib.hid (by unfold lkErr; rw [if_pos hE])
    obtain ⟨hsp, hpl⟩ := pl_zero hpz
    obtain ⟨hpe, htot⟩ := sp_zero hsp
    obtain ⟨hl12, hfit⟩ := parts_zero hpe
    have hll : (osOf fs).length = fs.length := by simp [osOf]
    have HOS := Lib.hid (hll.trans HL.out)
    have hn12 : n ≤ 12 := by rw [← HL.out, ← hll]; exact hl12
    have HEA : Hid (∀ x ∈ plL (osOf fs), 0 ≤ x.ad ∧ x.ad ≤ 20000) := Lib.hid (fun x hx => ents_ad hfit hl12 x (out_mem (by rw [← hpl]; exact hx)))
    have hns : ∀ o ∈ osOf fs, o.ns.length = o.n2 := fun o ho => (HR.2 o ho).rd.ns.len
    have hpl288 := ents_len hfit hns hl12 hpl
    have HEF := Lib.hid (en_fine (fun o ho y hy => ((HR.2 o ho).rd.ns.2 y hy).1) hpl)
    have HFIT := Lib.hid hfit
    have HCL := Lib.hid (cN_le hfit)
    have HENT : Hid (entF fs = entOf (plL (osOf fs))) := Lib.hid rfl
    have HEND : Hid (endOf fs = 16 + sW (osOf fs) n) := Lib.hid (by unfold endOf; rw [cN_sW, HOS.out])
    have hge := sp_ge (osOf fs)
    rw [← hbl] at hge htot
    have HBY : Hid (Byt (byL fs)) := Lib.hid (by
      unfold byL; rw [if_pos hE]
      exact outTo_byt (fun f hf => (h.2 f hf).rb.2) _)
    rw [hE] at HB
    rw [hpz] at HC
    obtain ⟨pl, hple⟩ : ∃ pl, pl = plL (osOf fs) := ⟨_, rfl⟩
    rw [← hple] at HC HEA hpl288 HEF HENT
    obtain ⟨bs, hbs⟩ : ∃ bs, bs = byL fs := ⟨_, rfl⟩
    rw [← hbs] at HB HBY hge htot
    obtain ⟨tot, htt⟩ : ∃ tot, bs.length = tot := ⟨_, rfl⟩
    rw [htt] at HB hge htot
    have HTT := Lib.hid htt
    have HBS := Lib.hid hbs
    clear hpz hsp hpl hpe hl12 hfit hll hns hE hple hbl htt hbs
    go_enter Try.func11, Try.ntmps11
    go_wp2_with fail
    refine (HB.out _ hbz).mono ?_
    rintro e' w3 ⟨v, rfl, hr3, hb3⟩
    obtain ⟨AB, cB, rfl, hcB1, hcB2⟩ := hr3.shape
    have hb3w := hbz.trans (hb3.mono hbz.size)
    have hres3 := hres.fr (Fr.of_grow hb3) (fun h => h)
    clear hb3 hres hbz
    go_wp2_with fail
    refine (HC.out _ hb3w).mono ?_
    rintro e' w4 ⟨v4, rfl, hr4, hb4⟩
    obtain ⟨AP, cP, rfl, hcP1, hcP2⟩ := hr4.shape
    have HRP := Lib.hid (⟨hr4.reads, rfl⟩ : RS En.cells 3 w4 w4.heap.size AP pl.length pl)
    have hb4w := hb3w.trans (hb4.mono hb3w.size)
    have hres4 := hres3.fr (Fr.of_grow hb4) (fun h => h)
    have hrb4 := hr3.grow hb4
    have hs4 := hb4w.size
    clear hr3 hr4 hres3
    have hsw0 : sW (osOf fs) 0 = 0 := by simp [sW]
    go_wp2
    go_loopw [8, 33] (fun x i w' => ∃ k : Nat, k ≤ n ∧ i = .int .i64 k ∧ x = .int .i64 (sW (osOf fs) k : Nat) ∧ Below w4.heap.size w4 w') (fun _ i _ => n - (intOf i).toNat)
    case atStart => exact ⟨0, by omega, rfl, by rw [hsw0]; rfl, Below.refl _ _⟩
    case round =>
      clear hsw0
      obtain ⟨k, hk, rfl, rfl, hbk⟩ := hrel
      rename World => W5
      have hs5 := hbk.size
      by_cases hlt : k < n
      · obtain ⟨b, o, f, rfl, hb, hx, hfd, hfull, z0, z1, z2, z3⟩ := (h.below' (hb4w.trans (hbk.mono hs4)) (Nat.le_refl _)).at_ hlt
        have hxo : (osOf fs)[k]? = some f.o := by unfold osOf; rw [List.getElem?_map, hx]; rfl
        have hst := Lib.hid (sW_step hxo)
        have hn0 := (HFIT.out f.o (List.mem_of_getElem? hxo)).n0
        have hsb : sW (osOf fs) k ≤ 7000 := by have := HCL.out k (by rw [HOS.out]; omega); rw [cN_sW] at this; omega
        have hb2 := Lib.hid (hbk.alloc hs5 (.cells #[.slice f.o.A0 f.o.n0 f.o.c0, .slice f.o.A1 f.o.n1 f.o.c1, .slice f.o.A2 f.o.n2 f.o.c2, .slice f.o.A3 f.o.n3 f.o.c3] 51))
        clear hfull hxo hx hfd hbk
        obtain ⟨⟨A0, n0, c0, A1, n1, c1, A2, n2, c2, A3, n3, c3, ns, ds⟩, ws, bs⟩ := f
        dsimp only at z0 z1 z2 z3 hst hn0
        generalize hsk : sW (osOf fs) k = sk at *
        replace hsk := Lib.hid hsk
        go_wp2
        go_roundw
        case rel => exact ⟨k + 1, by omega, by go_num, by rw [hst.out]; go_num, hb2.out⟩
        case measure => simp [intOf]; omega
      · obtain rfl : k = n := by omega
        have hsb : sW (osOf fs) k ≤ 7000 := by have := HCL.out k (by rw [HOS.out]; omega); rw [cN_sW] at this; omega
        have hib : Blk (W5.alloc (.cells #[.int .u32 0, .slice none 0 0] 41)) W5.heap.size #[.int .u32 (entOf (pl.take 0)), .slice none 0 0] 41 := Blk.new _ _ _
        have hb6 := hbk.alloc hs5 (.cells #[.int .u32 0, .slice none 0 0] 41)
        obtain ⟨W6, hW6⟩ : ∃ W, W = W5.alloc (.cells #[.int .u32 0, .slice none 0 0] 41) := ⟨_, rfl⟩
        rw [← hW6] at hib hb6
        obtain ⟨ib, hibe⟩ : ∃ ib, ib = W5.heap.size := ⟨_, rfl⟩
        rw [← hibe] at hib
        have hs6 : w4.heap.size ≤ ib := by omega
        have h66 := hib.lt
        have hres6 := hres4.fr (Fr.of_grow hb6) (fun h => h)
        have hrb6 := hrb4.grow hb6
        have HRP6 := Lib.hid (Reads.below' HRP.out.1 hb6 (Nat.le_refl _))
        have HB6 := Lib.hid (hb4w.trans (hb6.mono hs4))
        have hs46 := hb6.size
        have hwib : w.heap.size < ib := by have := hres4.lt; omega
        have HGB := Lib.hid (fun k (hk : (Value.slice AB tot cB).ownBlock = some k) => Nat.lt_of_lt_of_le (hrb4.lt k hk).2 hs6)
        go_wp2_with fail
        rw [← hW6, ← hibe]
        have HW6 := Lib.hid hW6
        have HIB := Lib.hid hibe
        clear hbk hs5 hb6 hW6 hibe hrb4 hres4 HRP hb4 hb4w hb3w
        go_loopw [47] (fun i w' => ∃ m : Nat, m ≤ pl.length ∧ i = .int .i64 m ∧ Blk w' ib #[.int .u32 (entOf (pl.take m)), .slice none 0 0] 41 ∧ Below ib W6 w' ∧ 0 ≤ entOf (pl.take m) ∧ entOf (pl.take m) ≤ 20000) (fun i _ => pl.length - (intOf i).toNat)
        case atStart => exact ⟨0, by omega, rfl, hib, Below.refl _ _, by simp [entOf, adr_nil]⟩
        case round =>
          clear hib
          obtain ⟨m, hm, rfl, hib, hbm, he0, he1⟩ := hrel
          rename World => W7
          have hs7 := hbm.size
          have hil := hib.lt
          by_cases hml : m < pl.length
          · obtain ⟨b8, o8, x, rfl, hb8, hx8, x0, x1, x2⟩ := rs_en_at (⟨Reads.below' HRP6.out hbm hs6, rfl⟩ : RS En.cells 3 W7 w4.heap.size AP pl.length pl) hml
            have hst := Lib.hid (entOf_snoc hx8)
            have hxs := HEF.out x (List.mem_of_getElem? hx8)
            have hxa := HEA.out x (List.mem_of_getElem? hx8)
            have hb8' : b8 < W7.heap.size := by omega
            have hib2 := hib.alloc (.cells #[.string x.s, .int .i64 x.part, .int .i64 x.ad] 33)
            have hbm2 := hbm.alloc (Nat.le_of_lt hil) (.cells #[.string x.s, .int .i64 x.part, .int .i64 x.ad] 33)
            have hic := hib2.cell
            have hif := hib2.free
            have hil2 := hib2.lt
            have hnn : ¬ ib = W7.heap.size := by omega
            have hke : (x.s.toList == ([115, 116, 97, 114, 116] : List UInt8)) = decide (x.s.data.toList = startK) := by
              rw [← start_list]; exact bp_key_eq
            clear hx8
            obtain ⟨xs, xp, xa, xw⟩ := x
            rw [show (⟨xs, xp, xa, xw⟩ : En).key = xs.data.toList from rfl] at hst
            dsimp only at x0 x1 x2 hke hxs hst hxa hib2 hbm2 hic hif hil2
            by_cases hkk : xs.data.toList = startK
            · rw [decide_eq_true hkk] at hke
              have hst2 : Hid (entOf (pl.take (m + 1)) = xa) := Lib.hid (by rw [hst.out, if_pos hkk.symm])
              have hib3 := Lib.hid ((hib.set 0 (.int .u32 xa)).alloc (.cells #[.string xs, .int .i64 xp, .int .i64 xa] 33))
              have hbm3 := Lib.hid ((hbm.setCell (p := ⟨ib, 0, none⟩) (Nat.le_refl _) (.int .u32 xa)).alloc (by simp; omega) (.cells #[.string xs, .int .i64 xp, .int .i64 xa] 33))
              clear hib hib2 hbm hbm2 hkk hst
              go_wp2
              go_roundw
              case rel => exact ⟨m + 1, by omega, by go_num, by rw [hst2.out]; exact hib3.out, hbm3.out, by rw [hst2.out]; exact hxa.1, by rw [hst2.out]; exact hxa.2⟩
              case measure => simp [intOf]; omega
            · rw [decide_eq_false hkk] at hke
              have hst2 : Hid (entOf (pl.take (m + 1)) = entOf (pl.take m)) := Lib.hid (by rw [hst.out, if_neg (fun h => hkk h.symm)])
              clear hib hbm hkk hst
              go_wp2
              go_roundw
              case rel => exact ⟨m + 1, by omega, by go_num, by rw [hst2.out]; exact hib2, hbm2, by rw [hst2.out]; exact he0, by rw [hst2.out]; exact he1⟩
              case measure => simp [intOf]; omega
          · obtain rfl : m = pl.length := by omega
            rw [List.take_length] at hib he0 he1
            have hic := hib.cell
            have hrc0 := hres6.fr (Fr.of_below hbm) (fun h => by omega)
            have hrcc := hrc0.cell
            have hrcf := hrc0.free
            have hrcl := hrc0.lt
            rw [← HENT.out] at hib hic he0 he1
            obtain ⟨ent, hent⟩ : ∃ ent, ent = entF fs := ⟨_, rfl⟩
            rw [← hent] at hib hic he0 he1 HLE
            have HENT2 := Lib.hid hent
            clear hent
            by_cases hgo : 16 ≤ ent ∧ ent < (endOf fs : Int)
            rotate_left
            · have he : Hid (lkErr fs = 4) := Lib.hid (by rw [HLE.out, if_neg hgo])
              have hbf := Lib.hid (show Below w.heap.size w W7 from HB6.out.trans (hbm.mono (by have := HB6.out.size; omega)))
              rw [HEND.out] at hgo
              have hgo2 : ent < 16 ∨ 16 + (sW (osOf fs) k : Int) ≤ ent := by omega
              clear hib hbm hgo
              have hww : ¬ w.heap.size = ib := by omega
              rcases hgo2 with hg1 | hg1
              · go_wp2_with fail
                exact bodyPost_ret (v := .tuple #[.agg #[.int .u32 0, .slice none 0 0], .int .i64 4]) (by simp [results, Try.results11, go_sem, hrcc, hrcl]) rfl (ImPost.bad he.out (by omega) ((hbf.out.setCell (p := ⟨w.heap.size, 0, none⟩) (Nat.le_refl _) _).setCell (p := ⟨w.heap.size, 1, none⟩) (Nat.le_refl _) _))
              · have hg2 : ¬ ent < 16 := by omega
                go_wp2_with fail
                exact bodyPost_ret (v := .tuple #[.agg #[.int .u32 0, .slice none 0 0], .int .i64 4]) (by simp [results, Try.results11, go_sem, hrcc, hrcl]) rfl (ImPost.bad he.out (by omega) ((hbf.out.setCell (p := ⟨w.heap.size, 0, none⟩) (Nat.le_refl _) _).setCell (p := ⟨w.heap.size, 1, none⟩) (Nat.le_refl _) _))
            · have he : Hid (lkErr fs = 0) := Lib.hid (by rw [HLE.out, if_pos hgo])
              have hgo1 := hgo.1
              have hgo2 : ent < 16 + (sW (osOf fs) k : Int) := by have := hgo.2; rw [HEND.out] at this; omega
              clear hgo
              have HUP := Lib.hid (fun W => up_any (16 + sW (osOf fs) k) 16 W (by omega) (by omega) (by omega))
              have HRI := Lib.hid (fun p a (ha : a = 16 * (p + 1)) => right_eq (16 + sW (osOf fs) k) p a ha)
              rw [← HEND.out] at HRI HUP
              have hup := up_ge (endOf fs) 16 (by omega)
              have hup2 : upN (endOf fs) 16 ≤ endOf fs + 15 := by unfold upN; omega
              generalize upN (endOf fs) 16 = ue at *
              have hce : ((endOf fs : Nat) : Int) = 16 + (sW (osOf fs) k : Int) := by have := HEND.out; omega
              rw [hce] at HUP
              have HBB := Lib.hid (hrb6.fr (Fr.of_below hbm) (fun k hk hk2 => by have := HGB.out k hk; omega))
              obtain ⟨gb, ob, rfl, _, _, _, _⟩ := bp_row_lt hrb6 (by omega : 0 < tot)
              have hgb : gb < ib := HGB.out gb rfl
              clear hce
              go_wp2_with fail
              refine (HUP.out _).mono ?_
              rintro e' W8 ⟨rfl, rfl⟩
              go_wp2
              go_loopw [15] (fun x w' => ∃ (p : Nat) (gs : List Pg) (A9 : Option Addr) (n9 c9 : Nat), p ≤ (tot - 1) / 16 ∧ x = .int .i64 (16 * (p + 1) : Nat) ∧ n9 = gs.length ∧ PgsOk bs (endOf fs) p gs ∧ Blk w' ib #[.int .u32 ent, .slice A9 n9 c9] 41 ∧ PgS w' ib (.slice A9 n9 c9) gs ∧ Below ib W7 w') (fun x _ => tot + 32 - (intOf x).toNat)
              case atStart => exact ⟨0, [], none, 0, 0, by omega, rfl, rfl, PgsOk.nil _ _, hib, PgS.nil _ _, Below.refl _ _⟩
              case round =>
                clear hib hrcc hrcf hrcl hic hil hs7
                obtain ⟨p, gs, A9, n9, c9, hp, rfl, hn9, hok, hib, hps, hbp⟩ := hrel
                rename World => W8
                have hil := hib.lt
                have hic := hib.cell
                have hif := hib.free
                have hs8 := hbp.size
                have hpl := hok.1
                generalize ha : 16 * (p + 1) = a at *
                have HA := Lib.hid ha
                have ha1 : 16 ≤ a := by omega
                have ha2 : a ≤ tot + 15 := by omega
                clear ha
                by_cases hlt : a < tot
                · have hmin : ∃ hi : Nat, hi = min (a + 16) tot := ⟨_, rfl⟩
                  obtain ⟨hi9, hmin⟩ := hmin
                  have hh1 : a < hi9 := by omega
                  have hh2 : hi9 ≤ tot := by omega
                  have hh3 : hi9 ≤ a + 16 := by omega
                  have hbb := HBB.out.fr (Fr.of_below hbp) (fun k hk hk2 => by have := HGB.out k hk; omega)
                  have hsub := reads_sub (a := a) (m := hi9 - a) hbb.reads (by omega)
                  rw [← List.map_drop, ← List.map_take] at hsub
                  have hdat : Hid ((bs.drop a).take (hi9 - a) = pgData bs p) := Lib.hid (by
                    unfold pgData
                    rw [HA.out]
                    by_cases h16 : a + 16 ≤ tot
                    · congr 1; omega
                    · rw [List.take_of_length_le (by rw [List.length_drop, HTT.out]; omega), List.take_of_length_le (by rw [List.length_drop, HTT.out]; omega)])
                  rw [hdat.out] at hsub
                  have hrr := Lib.hid (HRI.out p a HA.out.symm)
                  have hdiv : (a : Int).tdiv 16 = (p : Int) + 1 := by rw [Int.tdiv_eq_ediv_of_nonneg (by omega)]; have := HA.out; omega
                  have hdat2 : Byt (pgData bs p) := fun x hx => HBY.out x (by unfold pgData at hx; exact List.mem_of_mem_drop (List.mem_of_mem_take hx))
                  have hdl : (pgData bs p).length = hi9 - a := by have := hsub.1; simpa using this
                  obtain ⟨D, hD⟩ : ∃ D, D = pgData bs p := ⟨_, rfl⟩
                  rw [← hD] at hsub hdat2 hdl
                  have hHD := Lib.hid hD
                  obtain ⟨l9, hl9⟩ : ∃ l9, l9 = hi9 - a := ⟨_, rfl⟩
                  rw [← hl9] at hsub hdl
                  have hl16 : l9 ≤ 16 := by omega
                  have hwp : IntKind.i64.wrap ((p : Int) + 1) = (p : Int) + 1 := by rw [IntKind.wrap_i64]; have := HA.out; omega
                  have hcap : ¬ cB = a := by omega
                  have hca : hi9 ≤ cB := by omega
                  have hgb8 : gb < W8.heap.size := by omega
                  have hgs : gs.length = n9 := hn9.symm
                  have hrow := hps.row
                  rw [hgs] at hrow
                  have hn64 : n9 ≤ 64 := by omega
                  have HPS := Lib.hid hps
                  have HOK := Lib.hid hok
                  have HGS := Lib.hid hgs
                  have HHM := Lib.hid hmin
                  clear hD hps hok hn9 hpl hdat hbb
                  have hm9 : (min ((a : Int) + 16) tot) = hi9 := by omega
                  clear hmin
                  have key : ∀ (A2 : Option Addr) (c2 : Nat) (w9 w10 : World) (A10 : Option Addr) (c10 : Nat) (r : Int), r = pgRight (endOf fs) p → Row w9 ib 5 1 (.slice A2 l9 c2) l9 (D.map (Value.int .u8)) → Below W8.heap.size W8 w9 →
                      Row w10 ib 69 3 (.slice A10 (n9 + 1) c10) (n9 + 1) (gs.flatMap Pg.cells ++ [.int .i64 ((p : Int) + 1), .int .i64 r, .slice A2 l9 c2]) →
                      (w9.alloc (.cells #[.int .i64 ((p : Int) + 1), .int .i64 r, .slice A2 l9 c2] 69)).grownBy w10 (Value.slice A9 n9 c9).ownBlock →
                      Hid (∃ gs2 : List Pg, n9 + 1 = gs2.length ∧ PgsOk bs (endOf fs) (p + 1) gs2 ∧ Blk (w10.setCell ⟨ib, 1, none⟩ (.slice A10 (n9 + 1) c10)) ib #[.int .u32 ent, .slice A10 (n9 + 1) c10] 41 ∧ PgS (w10.setCell ⟨ib, 1, none⟩ (.slice A10 (n9 + 1) c10)) ib (.slice A10 (n9 + 1) c10) gs2 ∧ Below ib W7 (w10.setCell ⟨ib, 1, none⟩ (.slice A10 (n9 + 1) c10))) := by
                    intro A2 c2 w9 w10 A10 c10 r hr hr9 hb9 hr10 hg10
                    have hx9 := hb9.alloc hb9.size (.cells #[.int .i64 ((p : Int) + 1), .int .i64 r, .slice A2 l9 c2] 69)
                    have hib9 := hib.fr (Fr.of_grow hx9) (fun h => h)
                    have hps9 := HPS.out.grow hx9
                    have hne := bp_row_blk hps9.row hib9 (by decide)
                    have hib10 := hib9.grown hg10 (fun e => hne e.symm)
                    have hf10 := Fr.of_grown hg10
                    have hown := hr9.alloc (.cells #[.int .i64 ((p : Int) + 1), .int .i64 r, .slice A2 l9 c2] 69)
                    have hpn := hps9.app (g := ⟨(p : Int) + 1, r, A2, l9, c2, D⟩) (by rw [HGS.out]; exact hr10) (hf10.mono (fun k _ h => h)) ⟨hown, hl16, hdat2⟩
                    refine Lib.hid ⟨_, by rw [List.length_append, HGS.out]; rfl, HOK.out.snoc (g := ⟨(p : Int) + 1, r, A2, l9, c2, D⟩) rfl hr hHD.out, ?_, hpn.set hib10 (by decide) (by decide) _ _, ?_⟩
                    · have := hib10.set 1 (.slice A10 (n9 + 1) c10); simpa using this
                    · refine Below.setCell (p := ⟨ib, 1, none⟩) (B := ib) ?_ (Nat.le_refl _) _
                      have h1 : Below ib W7 (w9.alloc (.cells #[.int .i64 ((p : Int) + 1), .int .i64 r, .slice A2 l9 c2] 69)) := hbp.trans (hx9.mono (by omega))
                      exact h1.grown hg10 (by have := hb9.size; simp; omega) (fun k hk => (hps9.row.lt k hk).1)
                  have KEY := Lib.hid key
                  clear key
                  have hwrp : IntKind.i64.wrap ((a : Int) + 16) = (a : Int) + 16 := by rw [IntKind.wrap_i64]; omega
                  have hton : ((a : Int) + 16).toNat = a + 16 := by omega
                  by_cases h16 : a + 16 ≤ tot
                  · obtain rfl : hi9 = a + 16 := by omega
                    obtain rfl : l9 = 16 := by omega
                    clear hl9
                    have hnt : (if (tot : Int) < (a : Int) + 16 then (tot : Int) else (a : Int) + 16) = (a : Int) + 16 := if_neg (by omega)
                    have hal : a ≤ a + 16 := by omega
                    have hnc : (a : Int) + 16 ≤ cB := by omega
                    have hnz : (0 : Int) ≤ (a : Int) + 16 := by omega
                    by_cases hru : ue ≤ a
                    · rw [if_pos hru] at hrr
                      go_wp2_with fail
                      go_region_law (first | (refine step_append_row rfl (.const (.slice none 0 0)) (.tmp 95) 35 rfl ib 5 i0 (.int .u8 0) 1 1 Try.underlying35 hi hz0 hz1 hz2 rfl (by decide) (.slice none 0 0) 0 [] (by simp [Act.eval, Act.put]) (Row.nil _ _ _ _) W8.heap.size (some ⟨gb, ob + a, none⟩) 16 (cB - a) (D.map (Value.int .u8)) (by simp [Act.eval, Act.put]) hsub (u8_oneCell D) (by unfold maxLen; omega) (by omega) (by simp; omega) ?_; intro A2 c2 w9 hr9 hg9 ho9; have hb9 : Below W8.heap.size W8 w9 := ((Below.refl _ _).drew).grown hg9 (Nat.le_refl _) (fun k hk => by simp [Value.ownBlock] at hk); have hib9 := hib.fr (Fr.of_grow hb9) (fun h => h); have hc9 := hib9.cell; have hf9 := hib9.free; have hl9 := hib9.lt; have hp9 := (HPS.out.grow hb9); have hs9 := hb9.size) | (refine step_append_row rfl (.tmp 84) (.tmp 98) 39 rfl ib 69 i1 (.agg #[.int .i64 0, .int .i64 0, .slice none 0 0]) 3 40 Try.underlying39 hi1 hz3 hz4 hz5 rfl (by decide) (.slice A9 n9 c9) n9 (gs.flatMap Pg.cells) (by simp [Act.eval, Act.put]) (by have := hp9.row; rw [HGS.out] at this; exact this.alloc _) (w9.heap.size + 1) (some ⟨w9.heap.size, 0, none⟩) 1 1 [.int .i64 ((p : Int) + 1), .int .i64 3, .slice A2 16 c2] (by simp [Act.eval, Act.put]) (bp_reads w9 69 3 1 [.int .i64 ((p : Int) + 1), .int .i64 3, .slice A2 16 c2] rfl) (one_pg ⟨(p : Int) + 1, 3, A2, 16, c2, []⟩) (by unfold maxLen; omega) (by omega) (by simp; omega) ?_; intro A10 c10 w10 hr10 hg10 ho10; have hib10 := (hib9.alloc (.cells #[.int .i64 ((p : Int) + 1), .int .i64 3, .slice A2 16 c2] 69)).grown hg10 (fun e => (bp_row_blk hp9.row hib9 (by decide)) e.symm); have hc10 := hib10.cell; have hf10 := hib10.free; have hl10 := hib10.lt) | fail)
                      all_goals
                        obtain ⟨gs2, q1, q2, q3, q4, q5⟩ := (KEY.out A2 c2 w9 w10 A10 c10 3 hrr.out (by simpa using hr9) hb9 hr10 hg10).out
                        have Q := Lib.hid (And.intro q1 (And.intro q2 (And.intro q3 (And.intro q4 q5))))
                        have HA2 : Hid (16 * (p + 1 + 1) = a + 16) := Lib.hid (by have := HA.out; omega)
                        clear q1 q2 q3 q4 q5 hr9 hg9 ho9 hb9 hp9 hib9 hr10 hg10 ho10 hib10 KEY
                        go_wp2
                        go_roundw
                        case rel => exact ⟨p + 1, gs2, A10, n9 + 1, c10, by have := HA.out; omega, by rw [HA2.out]; go_num, Q.out.1, Q.out.2.1, Q.out.2.2.1, Q.out.2.2.2.1, Q.out.2.2.2.2⟩
                        case measure => simp [intOf]; omega
                    · rw [if_neg hru] at hrr
                      go_wp2_with fail
                      go_region_law (first | (refine step_append_row rfl (.const (.slice none 0 0)) (.tmp 95) 35 rfl ib 5 i0 (.int .u8 0) 1 1 Try.underlying35 hi hz0 hz1 hz2 rfl (by decide) (.slice none 0 0) 0 [] (by simp [Act.eval, Act.put]) (Row.nil _ _ _ _) W8.heap.size (some ⟨gb, ob + a, none⟩) 16 (cB - a) (D.map (Value.int .u8)) (by simp [Act.eval, Act.put]) hsub (u8_oneCell D) (by unfold maxLen; omega) (by omega) (by simp; omega) ?_; intro A2 c2 w9 hr9 hg9 ho9; have hb9 : Below W8.heap.size W8 w9 := ((Below.refl _ _).drew).grown hg9 (Nat.le_refl _) (fun k hk => by simp [Value.ownBlock] at hk); have hib9 := hib.fr (Fr.of_grow hb9) (fun h => h); have hc9 := hib9.cell; have hf9 := hib9.free; have hl9 := hib9.lt; have hp9 := (HPS.out.grow hb9); have hs9 := hb9.size) | (refine step_append_row rfl (.tmp 84) (.tmp 98) 39 rfl ib 69 i1 (.agg #[.int .i64 0, .int .i64 0, .slice none 0 0]) 3 40 Try.underlying39 hi1 hz3 hz4 hz5 rfl (by decide) (.slice A9 n9 c9) n9 (gs.flatMap Pg.cells) (by simp [Act.eval, Act.put]) (by have := hp9.row; rw [HGS.out] at this; exact this.alloc _) (w9.heap.size + 1) (some ⟨w9.heap.size, 0, none⟩) 1 1 [.int .i64 ((p : Int) + 1), .int .i64 5, .slice A2 16 c2] (by simp [Act.eval, Act.put]) (bp_reads w9 69 3 1 [.int .i64 ((p : Int) + 1), .int .i64 5, .slice A2 16 c2] rfl) (one_pg ⟨(p : Int) + 1, 5, A2, 16, c2, []⟩) (by unfold maxLen; omega) (by omega) (by simp; omega) ?_; intro A10 c10 w10 hr10 hg10 ho10; have hib10 := (hib9.alloc (.cells #[.int .i64 ((p : Int) + 1), .int .i64 5, .slice A2 16 c2] 69)).grown hg10 (fun e => (bp_row_blk hp9.row hib9 (by decide)) e.symm); have hc10 := hib10.cell; have hf10 := hib10.free; have hl10 := hib10.lt) | fail)
                      all_goals
                        obtain ⟨gs2, q1, q2, q3, q4, q5⟩ := (KEY.out A2 c2 w9 w10 A10 c10 5 hrr.out (by simpa using hr9) hb9 hr10 hg10).out
                        have Q := Lib.hid (And.intro q1 (And.intro q2 (And.intro q3 (And.intro q4 q5))))
                        have HA2 : Hid (16 * (p + 1 + 1) = a + 16) := Lib.hid (by have := HA.out; omega)
                        clear q1 q2 q3 q4 q5 hr9 hg9 ho9 hb9 hp9 hib9 hr10 hg10 ho10 hib10 KEY
                        go_wp2
                        go_roundw
                        case rel => exact ⟨p + 1, gs2, A10, n9 + 1, c10, by have := HA.out; omega, by rw [HA2.out]; go_num, Q.out.1, Q.out.2.1, Q.out.2.2.1, Q.out.2.2.2.1, Q.out.2.2.2.2⟩
                        case measure => simp [intOf]; omega
                  · obtain rfl : hi9 = tot := by omega
                    subst hl9
                    have hnt : (hi9 : Int) < (a : Int) + 16 := by omega
                    have hal : a ≤ hi9 := by omega
                    by_cases hru : ue ≤ a
                    · rw [if_pos hru] at hrr
                      go_wp2_with fail
                      go_region_law (first | (refine step_append_row rfl (.const (.slice none 0 0)) (.tmp 95) 35 rfl ib 5 i0 (.int .u8 0) 1 1 Try.underlying35 hi hz0 hz1 hz2 rfl (by decide) (.slice none 0 0) 0 [] (by simp [Act.eval, Act.put]) (Row.nil _ _ _ _) W8.heap.size (some ⟨gb, ob + a, none⟩) (hi9 - a) (cB - a) (D.map (Value.int .u8)) (by simp [Act.eval, Act.put]) hsub (u8_oneCell D) (by unfold maxLen; omega) (by omega) (by simp; omega) ?_; intro A2 c2 w9 hr9 hg9 ho9; have hb9 : Below W8.heap.size W8 w9 := ((Below.refl _ _).drew).grown hg9 (Nat.le_refl _) (fun k hk => by simp [Value.ownBlock] at hk); have hib9 := hib.fr (Fr.of_grow hb9) (fun h => h); have hc9 := hib9.cell; have hf9 := hib9.free; have hl9 := hib9.lt; have hp9 := (HPS.out.grow hb9); have hs9 := hb9.size) | (refine step_append_row rfl (.tmp 84) (.tmp 98) 39 rfl ib 69 i1 (.agg #[.int .i64 0, .int .i64 0, .slice none 0 0]) 3 40 Try.underlying39 hi1 hz3 hz4 hz5 rfl (by decide) (.slice A9 n9 c9) n9 (gs.flatMap Pg.cells) (by simp [Act.eval, Act.put]) (by have := hp9.row; rw [HGS.out] at this; exact this.alloc _) (w9.heap.size + 1) (some ⟨w9.heap.size, 0, none⟩) 1 1 [.int .i64 ((p : Int) + 1), .int .i64 3, .slice A2 (hi9 - a) c2] (by simp [Act.eval, Act.put]) (bp_reads w9 69 3 1 [.int .i64 ((p : Int) + 1), .int .i64 3, .slice A2 (hi9 - a) c2] rfl) (one_pg ⟨(p : Int) + 1, 3, A2, hi9 - a, c2, []⟩) (by unfold maxLen; omega) (by omega) (by simp; omega) ?_; intro A10 c10 w10 hr10 hg10 ho10; have hib10 := (hib9.alloc (.cells #[.int .i64 ((p : Int) + 1), .int .i64 3, .slice A2 (hi9 - a) c2] 69)).grown hg10 (fun e => (bp_row_blk hp9.row hib9 (by decide)) e.symm); have hc10 := hib10.cell; have hf10 := hib10.free; have hl10 := hib10.lt) | fail)
                      all_goals
                        obtain ⟨gs2, q1, q2, q3, q4, q5⟩ := (KEY.out A2 c2 w9 w10 A10 c10 3 hrr.out (by simpa using hr9) hb9 hr10 hg10).out
                        have Q := Lib.hid (And.intro q1 (And.intro q2 (And.intro q3 (And.intro q4 q5))))
                        have HA2 : Hid (16 * (p + 1 + 1) = a + 16) := Lib.hid (by have := HA.out; omega)
                        clear q1 q2 q3 q4 q5 hr9 hg9 ho9 hb9 hp9 hib9 hr10 hg10 ho10 hib10 KEY
                        go_wp2
                        go_roundw
                        case rel => exact ⟨p + 1, gs2, A10, n9 + 1, c10, by have := HA.out; omega, by rw [HA2.out]; go_num, Q.out.1, Q.out.2.1, Q.out.2.2.1, Q.out.2.2.2.1, Q.out.2.2.2.2⟩
                        case measure => simp [intOf]; omega
                    · rw [if_neg hru] at hrr
                      go_wp2_with fail
                      go_region_law (first | (refine step_append_row rfl (.const (.slice none 0 0)) (.tmp 95) 35 rfl ib 5 i0 (.int .u8 0) 1 1 Try.underlying35 hi hz0 hz1 hz2 rfl (by decide) (.slice none 0 0) 0 [] (by simp [Act.eval, Act.put]) (Row.nil _ _ _ _) W8.heap.size (some ⟨gb, ob + a, none⟩) (hi9 - a) (cB - a) (D.map (Value.int .u8)) (by simp [Act.eval, Act.put]) hsub (u8_oneCell D) (by unfold maxLen; omega) (by omega) (by simp; omega) ?_; intro A2 c2 w9 hr9 hg9 ho9; have hb9 : Below W8.heap.size W8 w9 := ((Below.refl _ _).drew).grown hg9 (Nat.le_refl _) (fun k hk => by simp [Value.ownBlock] at hk); have hib9 := hib.fr (Fr.of_grow hb9) (fun h => h); have hc9 := hib9.cell; have hf9 := hib9.free; have hl9 := hib9.lt; have hp9 := (HPS.out.grow hb9); have hs9 := hb9.size) | (refine step_append_row rfl (.tmp 84) (.tmp 98) 39 rfl ib 69 i1 (.agg #[.int .i64 0, .int .i64 0, .slice none 0 0]) 3 40 Try.underlying39 hi1 hz3 hz4 hz5 rfl (by decide) (.slice A9 n9 c9) n9 (gs.flatMap Pg.cells) (by simp [Act.eval, Act.put]) (by have := hp9.row; rw [HGS.out] at this; exact this.alloc _) (w9.heap.size + 1) (some ⟨w9.heap.size, 0, none⟩) 1 1 [.int .i64 ((p : Int) + 1), .int .i64 5, .slice A2 (hi9 - a) c2] (by simp [Act.eval, Act.put]) (bp_reads w9 69 3 1 [.int .i64 ((p : Int) + 1), .int .i64 5, .slice A2 (hi9 - a) c2] rfl) (one_pg ⟨(p : Int) + 1, 5, A2, hi9 - a, c2, []⟩) (by unfold maxLen; omega) (by omega) (by simp; omega) ?_; intro A10 c10 w10 hr10 hg10 ho10; have hib10 := (hib9.alloc (.cells #[.int .i64 ((p : Int) + 1), .int .i64 5, .slice A2 (hi9 - a) c2] 69)).grown hg10 (fun e => (bp_row_blk hp9.row hib9 (by decide)) e.symm); have hc10 := hib10.cell; have hf10 := hib10.free; have hl10 := hib10.lt) | fail)
                      all_goals
                        obtain ⟨gs2, q1, q2, q3, q4, q5⟩ := (KEY.out A2 c2 w9 w10 A10 c10 5 hrr.out (by simpa using hr9) hb9 hr10 hg10).out
                        have Q := Lib.hid (And.intro q1 (And.intro q2 (And.intro q3 (And.intro q4 q5))))
                        have HA2 : Hid (16 * (p + 1 + 1) = a + 16) := Lib.hid (by have := HA.out; omega)
                        clear q1 q2 q3 q4 q5 hr9 hg9 ho9 hb9 hp9 hib9 hr10 hg10 ho10 hib10 KEY
                        go_wp2
                        go_roundw
                        case rel => exact ⟨p + 1, gs2, A10, n9 + 1, c10, by have := HA.out; omega, by rw [HA2.out]; go_num, Q.out.1, Q.out.2.1, Q.out.2.2.1, Q.out.2.2.2.1, Q.out.2.2.2.2⟩
                        case measure => simp [intOf]; omega
                · have hfin : p = (tot - 1) / 16 := by have := HA.out; omega
                  have hrc8 := hrc0.fr (Fr.of_below hbp) (fun h => by omega)
                  have hrcc := hrc8.cell
                  have hrcf := hrc8.free
                  have hrcl := hrc8.lt
                  have hww : ¬ w.heap.size = ib := by omega
                  have hok2 : PgsOk (byL fs) (endOf fs) (((byL fs).length - 1) / 16) gs := by rw [← HBS.out, HTT.out, ← hfin]; exact hok
                  have HOK := Lib.hid hok2
                  have HPS := Lib.hid ((hps.set hrc8 (by decide) (by decide) 0 (.int .u32 ent)))
                  have hrc9 := hrc8.set 0 (.int .u32 ent)
                  have HPS2 := Lib.hid (HPS.out.set hrc9 (by decide) (by decide) 1 (.slice A9 n9 c9))
                  have hbf := Lib.hid (show Below w.heap.size w W8 from HB6.out.trans ((hbm.trans hbp).mono (by omega)))
                  have HN := Lib.hid hn9
                  clear hib hps hbp hok hok2 hpl hfin hn9 hrc9
                  go_wp2_with fail
                  exact bodyPost_ret (v := .tuple #[.agg #[.int .u32 ent, .slice A9 n9 c9], .int .i64 0]) (by simp [results, Try.results11, go_sem, hrcc, hrcl]) rfl (by have h9 := ImPost.good he.out HN.out (HPS2.out.base (Nat.le_of_lt hwib)) HOK.out ((hbf.out.setCell (p := ⟨w.heap.size, 0, none⟩) (Nat.le_refl _) _).setCell (p := ⟨w.heap.size, 1, none⟩) (Nat.le_refl _) (.slice A9 n9 c9)); rw [← HENT2.out] at h9; exact h9)
end Go.Proofs.Ytmndmdipjfblhaa
