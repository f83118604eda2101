/- Contract of ringref4.BindLink. -/
import Derived.Test.YtmndmdipjfblhaaBlH
namespace Go.Proofs.Ytmndmdipjfblhaa
open Go.RowKit
set_option maxHeartbeats 400000
set_option linter.unusedVariables false
set_option linter.unusedSimpArgs false
theorem pgData_at {bs : List Int} {p m : Nat} (h : m < (pgData bs p).length) : (pgData bs p).getD m 0 = bs.getD (16 * (p + 1) + m) 0 := by
  unfold pgData at h ⊢
  rw [List.length_take] at h
  simp only [List.getD, List.getElem?_take, List.getElem?_drop]
  rw [if_pos (by omega)]
theorem take_map_snoc {D : List Int} {m : Nat} (h : m < D.length) : (D.take m).map (Value.int .u8) ++ [.int .u8 (D.getD m 0)] = (D.take (m + 1)).map (Value.int .u8) := by
  rw [List.take_succ_eq_append_getElem h, List.map_append]
  simp [List.getD, List.getElem?_eq_getElem h]
set_option maxHeartbeats 4000000 in
set_option maxRecDepth 100000 in
theorem bindLink_any (hchk : ∀ (o : Ob) (w : World) (B : Nat), o.Read w B → B ≤ w.heap.size → o.n2 ≤ o.c2 → o.c2 ≤ 9223372036854775807 → Calls Try.prog 22 #[.agg o.vals] w (ErrPost w (objErr o)))
    (A : Option Addr) (n c : Nat) (fs : List Fo) (w : World) (h : RF w w.heap.size A n fs) (hn : n ≤ 9223372036854775807) : Calls Try.prog 12 #[.slice A n c] w (ImPost w fs) := by
  obtain ⟨i0, hi, hz0, hz1, hz2⟩ := info_parts infoU8
  obtain ⟨i1, hi1, hz3, hz4, hz5⟩ := info_parts infoPg
  have HL := Lib.hid h.len
  have HR : RO w w.heap.size A n (osOf fs) := h.ro
  have HB := Lib.hid (fun W (hb : Below w.heap.size w W) => bindBytes_any hchk A n c fs W w.heap.size (h.below' hb (Nat.le_refl _)) hb.size hn)
  have HC := Lib.hid (fun W (hb : Below w.heap.size w W) => bindPlaces_any hchk A n c (osOf fs) W w.heap.size (HR.below' hb (Nat.le_refl _)) hb.size hn)
  unfold ByPost at HB
  unfold PlPost at HC
  have hbz : Below w.heap.size w (w.alloc (.cells #[.int .u32 0, .slice none 0 0] 41)) := (Below.refl _ _).alloc (Nat.le_refl _) _
  have hres : Blk (w.alloc (.cells #[.int .u32 0, .slice none 0 0] 41)) w.heap.size #[.int .u32 0, .slice none 0 0] 41 := Blk.new _ _ _
  have HRES := Lib.hid hres
  by_cases hE : byErr fs = 0
  rotate_left
  · have e : Hid (lkErr fs = byErr fs) := Lib.hid (by unfold lkErr; rw [if_neg hE])
    generalize byErr fs = E at *
    have HE := Lib.hid hE
    have d : (E != 0) = true := by simpa using hE
    clear hE
    go_enter Try.func12, Try.ntmps12
    go_wp2_with fail
    refine (HB.out _ hbz).mono ?_
    rintro e' w3 ⟨v, rfl, hr3, hb3⟩
    have hr1 := hres.fr (Fr.of_grow hb3) (fun h => h)
    have hrc := hr1.cell
    have hrf := hr1.free
    have hrl := hr1.lt
    have hbf := Lib.hid (hbz.trans (hb3.mono hbz.size))
    clear hr3 hb3 hr1 hres hbz
    go_wp2_with fail
    exact bodyPost_ret (v := .tuple #[.agg #[.int .u32 0, .slice none 0 0], .int .i64 E]) (by simp [results, Try.results12, go_sem, hrc, hrl]) rfl (ImPost.bad e.out HE.out ((hbf.out.setCell (p := ⟨w.heap.size, 0, none⟩) (Nat.le_refl _) _).setCell (p := ⟨w.heap.size, 1, none⟩) (Nat.le_refl _) _))
  · obtain ⟨hpz, hbl⟩ := by_zero hE
    have hen := end_le hpz
    have HLE : Hid (lkErr fs = if 16 ≤ entF fs ∧ entF fs < endOf fs then 0 else 4) := Lib.hid (by unfold lkErr; rw [if_pos hE])
    obtain ⟨hsp, hpl⟩ := pl_zero hpz
    obtain ⟨hpe, htot⟩ := sp_zero hsp
    obtain ⟨hl12, hfit⟩ := parts_zero hpe
    have hll : (osOf fs).length = fs.length := by simp [osOf]
    have HOS := Lib.hid (hll.trans HL.out)
    have hn12 : n ≤ 12 := by rw [← HL.out, ← hll]; exact hl12
    have HEA : Hid (∀ x ∈ plL (osOf fs), 0 ≤ x.ad ∧ x.ad ≤ 20000) := Lib.hid (fun x hx => ents_ad hfit hl12 x (out_mem (by rw [← hpl]; exact hx)))
    have hns : ∀ o ∈ osOf fs, o.ns.length = o.n2 := fun o ho => (HR.2 o ho).rd.ns.len
    have hpl288 := ents_len hfit hns hl12 hpl
    have HEF := Lib.hid (en_fine (fun o ho y hy => ((HR.2 o ho).rd.ns.2 y hy).1) hpl)
    have HFIT := Lib.hid hfit
    have HCL := Lib.hid (cN_le hfit)
    have HENT : Hid (entR (endOf fs) (plL (osOf fs)) = if 16 ≤ entF fs ∧ entF fs < endOf fs then entF fs else 0) := Lib.hid (entR_eq (pl_nodup _) _)
    have HEND : Hid (endOf fs = 16 + sW (osOf fs) n) := Lib.hid (by unfold endOf; rw [cN_sW, HOS.out])
    have hge := sp_ge (osOf fs)
    rw [← hbl] at hge htot
    have HBY : Hid (Byt (byL fs)) := Lib.hid (by
      unfold byL; rw [if_pos hE]
      exact outTo_byt (fun f hf => (h.2 f hf).rb.2) _)
    rw [hE] at HB
    rw [hpz] at HC
    obtain ⟨pl, hple⟩ : ∃ pl, pl = plL (osOf fs) := ⟨_, rfl⟩
    rw [← hple] at HC HEA hpl288 HEF HENT
    obtain ⟨bs, hbs⟩ : ∃ bs, bs = byL fs := ⟨_, rfl⟩
    rw [← hbs] at HB HBY hge htot
    obtain ⟨tot, htt⟩ : ∃ tot, bs.length = tot := ⟨_, rfl⟩
    rw [htt] at HB hge htot
    have HTT := Lib.hid htt
    have HBS := Lib.hid hbs
    clear hpz hsp hpl hpe hl12 hfit hll hns hE hple hbl htt hbs
    go_enter Try.func12, Try.ntmps12
    go_wp2_with fail
    refine (HB.out _ hbz).mono ?_
    rintro e' w3 ⟨v, rfl, hr3, hb3⟩
    obtain ⟨AB, cB, rfl, hcB1, hcB2⟩ := hr3.shape
    have hb3w := hbz.trans (hb3.mono hbz.size)
    have hres3 := hres.fr (Fr.of_grow hb3) (fun h => h)
    clear hb3 hres hbz
    have hs3 := hb3w.size
    have hsw0 : sW (osOf fs) 0 = 0 := by simp [sW]
    go_wp2
    go_loopw [6, 28] (fun x i w' => ∃ k : Nat, k ≤ n ∧ i = .int .i64 k ∧ x = .int .i64 (16 + sW (osOf fs) k : Nat) ∧ Below w3.heap.size w3 w') (fun _ i _ => n - (intOf i).toNat)
    case atStart => exact ⟨0, by omega, rfl, by rw [hsw0]; rfl, Below.refl _ _⟩
    case round =>
      clear hsw0
      obtain ⟨k, hk, rfl, rfl, hbk⟩ := hrel
      rename World => W5
      have hs5 := hbk.size
      by_cases hlt : k < n
      · obtain ⟨b, o, f, rfl, hb, hx, hfd, hfull, z0, z1, z2, z3⟩ := (h.below' (hb3w.trans (hbk.mono hs3)) (Nat.le_refl _)).at_ hlt
        have hxo : (osOf fs)[k]? = some f.o := by unfold osOf; rw [List.getElem?_map, hx]; rfl
        have hst := Lib.hid (sW_step hxo)
        have hn0 := (HFIT.out f.o (List.mem_of_getElem? hxo)).n0
        have hsb : sW (osOf fs) k ≤ 7000 := by have := HCL.out k (by rw [HOS.out]; omega); rw [cN_sW] at this; omega
        have hb2 := Lib.hid (hbk.alloc hs5 (.cells #[.slice f.o.A0 f.o.n0 f.o.c0, .slice f.o.A1 f.o.n1 f.o.c1, .slice f.o.A2 f.o.n2 f.o.c2, .slice f.o.A3 f.o.n3 f.o.c3] 51))
        clear hfull hxo hx hfd hbk
        obtain ⟨⟨A0, n0, c0, A1, n1, c1, A2, n2, c2, A3, n3, c3, ns, ds⟩, ws, bs⟩ := f
        dsimp only at z0 z1 z2 z3 hst hn0
        generalize hsk : sW (osOf fs) k = sk at *
        replace hsk := Lib.hid hsk
        obtain ⟨sk1, hsk1⟩ : ∃ sk1, 16 + sk = sk1 := ⟨_, rfl⟩
        rw [hsk1]
        have HSK := Lib.hid hsk1
        have hskb : sk1 ≤ 7016 := by omega
        clear hsk1
        go_wp2
        go_roundw
        case rel => exact ⟨k + 1, by omega, by go_num, by rw [hst.out, ← Nat.add_assoc, HSK.out]; go_num, hb2.out⟩
        case measure => simp [intOf]; omega
      · obtain rfl : k = n := by omega
        have hb5w := hb3w.trans (hbk.mono hs3)
        have hsb : sW (osOf fs) k ≤ 7000 := by have := HCL.out k (by rw [HOS.out]; omega); rw [cN_sW] at this; omega
        rw [← HEND.out]
        have hres5 := hres3.fr (Fr.of_grow hbk) (fun h => h)
        have hr5 := hr3.grow hbk
        clear hr3 hres3 hbk
        go_wp2_with fail
        refine (HC.out _ hb5w).mono ?_
        rintro e' w4 ⟨v4, rfl, hr4, hb4⟩
        obtain ⟨AP, cP, rfl, hcP1, hcP2⟩ := hr4.shape
        have HRP := Lib.hid (⟨hr4.reads, rfl⟩ : RS En.cells 3 w4 w4.heap.size AP pl.length pl)
        have hb4w := hb5w.trans (hb4.mono hb5w.size)
        have hres4 := hres5.fr (Fr.of_grow hb4) (fun h => h)
        have hrb4 := hr5.grow hb4
        have hs4 := hb4w.size
        clear hr4 hres5 hr5 hb4 hb5w hb3w hs5 hs3
        have hib : Blk (w4.alloc (.cells #[.int .u32 0, .slice none 0 0] 41)) w4.heap.size #[.int .u32 (entR (endOf fs) (pl.take 0)), .slice none 0 0] 41 := Blk.new _ _ _
        have hb6 : Below w4.heap.size w4 (w4.alloc (.cells #[.int .u32 0, .slice none 0 0] 41)) := (Below.refl _ _).alloc (Nat.le_refl _) _
        obtain ⟨W6, hW6⟩ : ∃ W, W = w4.alloc (.cells #[.int .u32 0, .slice none 0 0] 41) := ⟨_, rfl⟩
        rw [← hW6] at hib hb6
        obtain ⟨ib, hibe⟩ : ∃ ib, ib = w4.heap.size := ⟨_, rfl⟩
        rw [← hibe] at hib
        have hs6 : w4.heap.size ≤ ib := by omega
        have h66 := hib.lt
        have hres6 := hres4.fr (Fr.of_grow hb6) (fun h => h)
        have hrb6 := hrb4.grow hb6
        have HRP6 := Lib.hid (Reads.below' HRP.out.1 hb6 (Nat.le_refl _))
        have HB6 := Lib.hid (hb4w.trans (hb6.mono hs4))
        have hs46 := hb6.size
        have hwib : w.heap.size < ib := by have := hres4.lt; omega
        have HGB := Lib.hid (fun k (hk : (Value.slice AB tot cB).ownBlock = some k) => Nat.lt_of_lt_of_le (hrb4.lt k hk).2 hs6)
        go_wp2_with fail
        rw [← hW6, ← hibe]
        have HW6 := Lib.hid hW6
        have HIB := Lib.hid hibe
        clear hb6 hW6 hibe hrb4 hres4 HRP hb4w
        go_loopw [47] (fun i w' => ∃ m : Nat, m ≤ pl.length ∧ i = .int .i64 m ∧ Blk w' ib #[.int .u32 (entR (endOf fs) (pl.take m)), .slice none 0 0] 41 ∧ Below ib W6 w' ∧ 0 ≤ entR (endOf fs) (pl.take m) ∧ entR (endOf fs) (pl.take m) ≤ 20000) (fun i _ => pl.length - (intOf i).toNat)
        case atStart => exact ⟨0, by omega, rfl, hib, Below.refl _ _, by simp [entR]⟩
        case round =>
          clear hib
          obtain ⟨m, hm, rfl, hib, hbm, he0, he1⟩ := hrel
          rename World => W7
          have hs7 := hbm.size
          have hil := hib.lt
          by_cases hml : m < pl.length
          · obtain ⟨b8, o8, x, rfl, hb8, hx8, x0, x1, x2⟩ := rs_en_at (⟨Reads.below' HRP6.out hbm hs6, rfl⟩ : RS En.cells 3 W7 w4.heap.size AP pl.length pl) hml
            have hst := Lib.hid (entR_snoc (endOf fs) hx8)
            have hxs := HEF.out x (List.mem_of_getElem? hx8)
            have hxa := HEA.out x (List.mem_of_getElem? hx8)
            have hb8' : b8 < W7.heap.size := by omega
            have hib2 := hib.alloc (.cells #[.string x.s, .int .i64 x.part, .int .i64 x.ad] 33)
            have hbm2 := hbm.alloc (Nat.le_of_lt hil) (.cells #[.string x.s, .int .i64 x.part, .int .i64 x.ad] 33)
            have hic := hib2.cell
            have hif := hib2.free
            have hil2 := hib2.lt
            have hnn : ¬ ib = W7.heap.size := by omega
            have hke : (x.s.toList == ([115, 116, 97, 114, 116] : List UInt8)) = decide (x.s.data.toList = startK) := by
              rw [← start_list]; exact bp_key_eq
            clear hx8
            obtain ⟨xs, xp, xa, xw⟩ := x
            rw [show (⟨xs, xp, xa, xw⟩ : En).key = xs.data.toList from rfl] at hst
            dsimp only at x0 x1 x2 hke hxs hst hxa hib2 hbm2 hic hif hil2
            have hst0 := Lib.hid (fun (hno : ¬ (startK = xs.data.toList ∧ 16 ≤ xa ∧ xa < (endOf fs : Int))) => (show entR (endOf fs) (pl.take (m + 1)) = entR (endOf fs) (pl.take m) from hst.out.trans (if_neg hno)))
            by_cases hkk : xs.data.toList = startK
            rotate_left
            · rw [decide_eq_false hkk] at hke
              have hst2 := Lib.hid (hst0.out (fun h => hkk h.1.symm))
              clear hib hbm hkk hst hst0
              go_wp2
              go_roundw
              case rel => exact ⟨m + 1, by omega, by go_num, by rw [hst2.out]; exact hib2, hbm2, by rw [hst2.out]; exact he0, by rw [hst2.out]; exact he1⟩
              case measure => simp [intOf]; omega
            rw [decide_eq_true hkk] at hke
            by_cases hx16 : 16 ≤ xa
            rotate_left
            · have hst2 := Lib.hid (hst0.out (fun h => hx16 h.2.1))
              have hx16' : xa < 16 := by omega
              clear hib hbm hkk hst hst0 hx16
              go_wp2
              go_roundw
              case rel => exact ⟨m + 1, by omega, by go_num, by rw [hst2.out]; exact hib2, hbm2, by rw [hst2.out]; exact he0, by rw [hst2.out]; exact he1⟩
              case measure => simp [intOf]; omega
            by_cases hxe : xa < (endOf fs : Int)
            rotate_left
            · have hst2 := Lib.hid (hst0.out (fun h => hxe h.2.2))
              have hxe' : (endOf fs : Int) ≤ xa := by omega
              clear hib hbm hkk hst hst0 hxe
              go_wp2
              go_roundw
              case rel => exact ⟨m + 1, by omega, by go_num, by rw [hst2.out]; exact hib2, hbm2, by rw [hst2.out]; exact he0, by rw [hst2.out]; exact he1⟩
              case measure => simp [intOf]; omega
            · have hst2 : Hid (entR (endOf fs) (pl.take (m + 1)) = xa) := Lib.hid (by rw [hst.out, if_pos ⟨hkk.symm, hx16, hxe⟩])
              have hib3 := Lib.hid ((hib.set 0 (.int .u32 xa)).alloc (.cells #[.string xs, .int .i64 xp, .int .i64 xa] 33))
              have hbm3 := Lib.hid ((hbm.setCell (p := ⟨ib, 0, none⟩) (Nat.le_refl _) (.int .u32 xa)).alloc (by simp; omega) (.cells #[.string xs, .int .i64 xp, .int .i64 xa] 33))
              clear hib hib2 hbm hbm2 hkk hst hst0
              go_wp2
              go_roundw
              case rel => exact ⟨m + 1, by omega, by go_num, by rw [hst2.out]; exact hib3.out, hbm3.out, by rw [hst2.out]; exact hxa.1, by rw [hst2.out]; exact hxa.2⟩
              case measure => simp [intOf]; omega
          · obtain rfl : m = pl.length := by omega
            rw [List.take_length, HENT.out] at hib he0 he1
            have hrc0 := hres6.fr (Fr.of_below hbm) (fun h => by omega)
            have hrcc := hrc0.cell
            have hrcf := hrc0.free
            have hrcl := hrc0.lt
            obtain ⟨ent, hent⟩ : ∃ ent, ent = entF fs := ⟨_, rfl⟩
            rw [← hent] at hib he0 he1 HLE
            have HENT2 := Lib.hid hent
            clear hent
            by_cases hgo : 16 ≤ ent ∧ ent < (endOf fs : Int)
            rotate_left
            · have he : Hid (lkErr fs = 4) := Lib.hid (by rw [HLE.out, if_neg hgo])
              have hbf := Lib.hid (show Below w.heap.size w W7 from HB6.out.trans (hbm.mono (by omega)))
              rw [if_neg hgo] at hib
              have hic := hib.cell
              clear hib hbm hgo he0 he1
              have hww : ¬ w.heap.size = ib := by omega
              go_wp2_with fail
              exact bodyPost_ret (v := .tuple #[.agg #[.int .u32 0, .slice none 0 0], .int .i64 4]) (by simp [results, Try.results12, go_sem, hrcc, hrcl]) rfl (ImPost.bad he.out (by omega) ((hbf.out.setCell (p := ⟨w.heap.size, 0, none⟩) (Nat.le_refl _) _).setCell (p := ⟨w.heap.size, 1, none⟩) (Nat.le_refl _) _))
            · have he : Hid (lkErr fs = 0) := Lib.hid (by rw [HLE.out, if_pos hgo])
              rw [if_pos hgo] at hib he0 he1
              have hic := hib.cell
              have hgo1 := hgo.1
              have hgo3 : ¬ ent = 0 := by omega
              have hgo4 : (ent == 0) = false := by simpa using hgo3
              clear hgo
              have HBB := Lib.hid (hrb6.fr (Fr.of_below hbm) (fun k hk hk2 => by have := HGB.out k hk; omega))
              obtain ⟨gb, ob, rfl, _, _, _, _⟩ := bp_row_lt hrb6 (by omega : 0 < tot)
              have hgb : gb < ib := HGB.out gb rfl
              go_wp2
              go_loopw [14] (fun x w' => ∃ (p : Nat) (gs : List Pg) (A9 : Option Addr) (n9 c9 : Nat), p ≤ (tot - 1) / 16 ∧ x = .int .i64 (p + 1 : Nat) ∧ n9 = gs.length ∧ PgsOk bs (endOf fs) p gs ∧ Blk w' ib #[.int .u32 ent, .slice A9 n9 c9] 41 ∧ PgS w' ib (.slice A9 n9 c9) gs ∧ Below ib W7 w') (fun x _ => tot + 32 - (intOf x).toNat)
              case atStart => exact ⟨0, [], none, 0, 0, by omega, rfl, rfl, PgsOk.nil _ _, hib, PgS.nil _ _, Below.refl _ _⟩
              case round =>
                clear hib hrcc hrcf hrcl hic hil hs7
                obtain ⟨p, gs, A9, n9, c9, hp, rfl, hn9, hok, hib, hps, hbp⟩ := hrel
                rename World => W8
                have hil := hib.lt
                have hic := hib.cell
                have hif := hib.free
                have hs8 := hbp.size
                have hpl := hok.1
                have hpb : p ≤ 64 := by omega
                by_cases hlt : 16 * (p + 1) < tot
                rotate_left
                · have hfin : p = (tot - 1) / 16 := by omega
                  have hltI : ¬ (16 * ((p : Int) + 1) < tot) := by omega
                  have hrc8 := hrc0.fr (Fr.of_below hbp) (fun h => by omega)
                  have hrcc := hrc8.cell
                  have hrcf := hrc8.free
                  have hrcl := hrc8.lt
                  have hww : ¬ w.heap.size = ib := by omega
                  have hok2 : PgsOk (byL fs) (endOf fs) (((byL fs).length - 1) / 16) gs := by rw [← HBS.out, HTT.out, ← hfin]; exact hok
                  have HOK := Lib.hid hok2
                  have HPS := Lib.hid ((hps.set hrc8 (by decide) (by decide) 0 (.int .u32 ent)))
                  have hrc9 := hrc8.set 0 (.int .u32 ent)
                  have HPS2 := Lib.hid (HPS.out.set hrc9 (by decide) (by decide) 1 (.slice A9 n9 c9))
                  have hbf := Lib.hid (show Below w.heap.size w W8 from HB6.out.trans ((hbm.trans hbp).mono (by omega)))
                  have HN := Lib.hid hn9
                  clear hib hps hbp hok hok2 hpl hfin hn9 hrc9 hp
                  obtain ⟨q1, hq1⟩ : ∃ q1, p + 1 = q1 := ⟨_, rfl⟩
                  rw [hq1] at hlt ⊢
                  have hlt' : ¬ (16 * (q1 : Int) < tot) := by omega
                  have hq64 : q1 ≤ 65 := by omega
                  clear hltI hq1 hpb
                  go_wp2_with fail
                  exact bodyPost_ret (v := .tuple #[.agg #[.int .u32 ent, .slice A9 n9 c9], .int .i64 0]) (by simp [results, Try.results12, go_sem, hrcc, hrcl]) rfl (by have h9 := ImPost.good he.out HN.out (HPS2.out.base (Nat.le_of_lt hwib)) HOK.out ((hbf.out.setCell (p := ⟨w.heap.size, 0, none⟩) (Nat.le_refl _) (.int .u32 ent)).setCell (p := ⟨w.heap.size, 1, none⟩) (Nat.le_refl _) (.slice A9 n9 c9)); rw [← HENT2.out] at h9; exact h9)
                · obtain ⟨a, ha⟩ : ∃ a, 16 * (p + 1) = a := ⟨_, rfl⟩
                  obtain ⟨q1, hq1⟩ : ∃ q1, p + 1 = q1 := ⟨_, rfl⟩
                  have hqa : 16 * (q1 : Int) = (a : Int) := by omega
                  have hpq : (q1 : Int) = (p : Int) + 1 := by omega
                  have hq64 : q1 ≤ 65 := by omega
                  obtain ⟨hi9, hmin⟩ : ∃ hi9 : Nat, hi9 = min (a + 16) tot := ⟨_, rfl⟩
                  have hat : a < tot := by omega
                  obtain ⟨l9, hl9⟩ : ∃ l9, l9 = hi9 - a := ⟨_, rfl⟩
                  have hl16 : l9 ≤ 16 := by omega
                  have hlt9 : a + l9 ≤ tot := by omega
                  have hor : l9 = 16 ∨ a + l9 = tot := by omega
                  have hbb := HBB.out.fr (Fr.of_below hbp) (fun k hk hk2 => by have := HGB.out k hk; omega)
                  have hdl : (pgData bs p).length = l9 := by unfold pgData; rw [List.length_take, List.length_drop, HTT.out, ha]; omega
                  have hdat2 : Byt (pgData bs p) := fun x hx => HBY.out x (by unfold pgData at hx; exact List.mem_of_mem_drop (List.mem_of_mem_take hx))
                  have HDA := Lib.hid (fun m (hm : m < l9) => (pgData_at (bs := bs) (p := p) (m := m) (by rw [hdl]; exact hm)).trans (by rw [ha]))
                  have HRD := Lib.hid hbb.reads
                  have hrr : ∃ r, r = pgRight (endOf fs) p := ⟨_, rfl⟩
                  obtain ⟨r, hrr⟩ := hrr
                  have hr3 : endOf fs ≤ a → r = 3 := fun h => by rw [hrr]; unfold pgRight; rw [if_pos (by omega)]
                  have hr5 : ¬ endOf fs ≤ a → r = 5 := fun h => by rw [hrr]; unfold pgRight; rw [if_neg (by omega)]
                  have HRR := Lib.hid hrr
                  obtain ⟨D, hD⟩ : ∃ D, D = pgData bs p := ⟨_, rfl⟩
                  rw [← hD] at hdat2 hdl HDA
                  have HHD := Lib.hid hD
                  have HBD := Lib.hid hdat2
                  have HDLn := Lib.hid hdl
                  have HPS := Lib.hid hps
                  have HOK := Lib.hid hok
                  have HGS := Lib.hid hn9.symm
                  have HPQ := Lib.hid hpq
                  have hgb8 : gb < W8.heap.size := by omega
                  have hpg := hps.row.lt
                  have HPL := Lib.hid hpl
                  rw [hq1]
                  have HQ1 := Lib.hid hq1
                  have HA := Lib.hid ha
                  clear hbb hD hmin hl9 ha hn9 hpl hok hps hlt hdl hdat2 hrr hpq hq1 hpb
                  obtain ⟨pb, hpbe⟩ : ∃ pb, pb = W8.heap.size := ⟨_, rfl⟩
                  have hpn : ¬ pb = ib := by omega
                  have hpn2 : ¬ ib = pb := by omega
                  have hax : (a : Int) < tot := by omega
                  have hq1b : q1 ≤ 65 := hq64
                  obtain ⟨W10, hW10⟩ : ∃ W, W = W8.alloc (.cells #[.int .i64 q1, .int .i64 r, .slice none 0 0] 69) := ⟨_, rfl⟩
                  have hb2 : Blk W10 pb #[.int .i64 q1, .int .i64 r, .slice none 0 0] 69 := by rw [hpbe, hW10]; exact Blk.new _ _ _
                  have hx1 : Below pb W8 W10 := by rw [hpbe, hW10]; exact (Below.refl _ _).alloc (Nat.le_refl _) _
                  by_cases hru : endOf fs ≤ a
                  case' pos =>
                    have hr := Lib.hid (hr3 hru)
                    have hrub : decide (endOf fs ≤ a) = true := by simp; omega
                    replace hW10 := Lib.hid hW10
                    replace hb2 := Lib.hid hb2
                    clear hr3 hr5 hru
                    go_wp2_with fail
                    replace hW10 := hW10.out
                    replace hb2 := hb2.out
                    rw [hr.out] at hW10
                    rw [← hpbe, ← hW10]
                    clear hr
                  case' neg =>
                    have hr := Lib.hid (hr5 hru)
                    have hrub : decide (endOf fs ≤ a) = false := by simp; omega
                    replace hW10 := Lib.hid hW10
                    replace hb2 := Lib.hid hb2
                    clear hr3 hr5 hru
                    go_wp2_with fail
                    replace hW10 := hW10.out
                    replace hb2 := hb2.out
                    rw [hr.out] at hW10
                    rw [← hpbe, ← hW10]
                    clear hr
                  all_goals
                    have hs10 := hx1.size
                    have hx1b := Lib.hid hx1
                    have HW10 := Lib.hid hW10
                    have hpbl := hb2.lt
                    have hrow0 : Row W10 pb 5 1 (.slice none 0 0) 0 ((D.take 0).map (Value.int .u8)) := Row.nil _ _ _ _
                    have hd0 := HDLn.out
                    have HPBE := Lib.hid hpbe
                    have hpb1 : W8.heap.size ≤ pb := by omega
                    have hpb2 : pb ≤ W8.heap.size := by omega
                    clear hx1 hW10 hpbe
                    go_loopw [16] (fun x w' => ∃ (m : Nat) (A2 : Option Addr) (c2 : Nat), m ≤ l9 ∧ x = .int .i64 (a + m : Nat) ∧ Blk w' pb #[.int .i64 q1, .int .i64 r, .slice A2 m c2] 69 ∧ Row w' pb 5 1 (.slice A2 m c2) m ((D.take m).map (Value.int .u8)) ∧ Below pb W10 w') (fun x _ => a + 40 - (intOf x).toNat)
                    case atStart => exact ⟨0, none, 0, by omega, rfl, hb2, hrow0, Below.refl _ _⟩
                    case round =>
                      clear hb2 hrow0
                      obtain ⟨m, A2, c2, hm, rfl, hbx, hrw, hbm2⟩ := hrel
                      rename World => W11
                      have hbl := hbx.lt
                      have hs11 := hbm2.size
                      obtain ⟨i9, hi9e⟩ : ∃ i9, a + m = i9 := ⟨_, rfl⟩
                      rw [hi9e]
                      by_cases hml : m < l9
                      · have hi1 : (i9 : Int) < (a : Int) + 16 := by omega
                        have hi2 : (i9 : Int) < tot := by omega
                        have hbc := hbx.cell
                        have hbf := hbx.free
                        obtain ⟨b7, o7, u7, e7, hb7, hu7, hc7⟩ := (HRD.out.below' (B' := pb) (hx1b.out.trans hbm2) (by omega)).at_ (show i9 < tot by omega)
                        injection e7 with e7
                        injection e7 with e7 e8
                        subst e7; subst e8
                        have hu8 : u7 = .int .u8 (D.getD m 0) := by
                          rw [HDA.out m hml, hi9e]
                          have hl : i9 < bs.length := by rw [HTT.out]; omega
                          rw [List.getElem?_map, List.getElem?_eq_getElem hl] at hu7
                          simp [List.getD, List.getElem?_eq_getElem hl]
                          simpa using hu7.symm
                        subst hu8
                        have hsn := Lib.hid (take_map_snoc (D := D) (m := m) (by rw [HDLn.out]; exact hml))
                        have hgb11 : gb < W11.heap.size := by omega
                        have hne := Lib.hid (bp_row_blk hrw hbx (by decide))
                        have HBX := Lib.hid hbx
                        have HBM := Lib.hid hbm2
                        have HRW := Lib.hid hrw
                        have hlo := Lib.hid hrw.lt
                        generalize D.getD m 0 = y at *
                        clear hu7 hbx hbm2 hrw
                        go_wp2_with fail
                        go_region_law (refine step_append_row rfl (.tmp 104) (.tmp 109) 35 rfl pb 5 i0 (.int .u8 0) 1 1 Try.underlying35 hi hz0 hz1 hz2 rfl (by decide) (.slice A2 m c2) m ((D.take m).map (Value.int .u8)) (by simp [Act.eval, Act.put]) (HRW.out.drew.alloc (.cells #[.int .u8 y] 5)) (W11.drew.heap.size + 1) (some ⟨W11.drew.heap.size, 0, none⟩) 1 1 [.int .u8 y] (by simp [Act.eval, Act.put]) (bp_reads W11.drew 5 1 1 [.int .u8 y] rfl) (by simp [Value.oneCell']) (by unfold maxLen; omega) (by omega) (by simp; omega) ?_; intro A3 c3 w9 hr9 hg9 ho9; have hbx9 := ((HBX.out.drew).alloc (.cells #[.int .u8 y] 5)).grown hg9 (fun e => hne.out e.symm); have hbc9 := hbx9.cell; have hbf9 := hbx9.free; have hbl9 := hbx9.lt)
                        all_goals
                          have hbm9 : Below pb W10 w9 := ((HBM.out.drew).alloc (by simp; omega) (.cells #[.int .u8 y] 5)).grown hg9 (by simp; omega) (fun k hk => (hlo.out k hk).1)
                          rw [hsn.out] at hr9
                          have hr10 := Lib.hid (hr9.setCell (p := ⟨pb, 2, none⟩) (fun e => bp_row_blk hr9 hbx9 (by decide) e) (.slice A3 (m + 1) c3))
                          have hbx10 := Lib.hid (hbx9.set 2 (.slice A3 (m + 1) c3))
                          have hbm10 := Lib.hid (hbm9.setCell (p := ⟨pb, 2, none⟩) (Nat.le_refl _) (.slice A3 (m + 1) c3))
                          have hii : Hid (a + (m + 1) = i9 + 1) := Lib.hid (by omega)
                          clear hr9 hg9 ho9 hbx9 hbm9 hi9e
                          have hmm1 : m + 1 ≤ l9 := by omega
                          go_wp2
                          exact ⟨⟨m + 1, A3, c3, hmm1, by rw [hii.out]; go_num, hbx10.out, hr10.out, hbm10.out⟩, by simp [intOf]; omega⟩
                      · obtain rfl : m = l9 := by omega
                        have hx11 : Below pb W8 W11 := hx1b.out.trans hbm2
                        have hx11g : Below W8.heap.size W8 W11 := by have := hx11; rw [HPBE.out] at this; exact this
                        have hps11 := HPS.out.grow hx11g
                        have hib11 := hib.fr (Fr.of_grow hx11g) (fun h => h)
                        have hic11 := hib11.cell
                        have hif11 := hib11.free
                        have hil11 := hib11.lt
                        have hbc := hbx.cell
                        have hrow11 := hps11.row
                        rw [HGS.out] at hrow11
                        have hDt : D.take m = D := by rw [List.take_of_length_le]; rw [HDLn.out]; exact Nat.le_refl _
                        rw [hDt] at hrw
                        have hn64 : n9 ≤ 64 := by have := HGS.out; have := HPL.out; have := HQ1.out; omega
                        have hown : Pg.own W11 ib ⟨q1, r, A2, m, c2, D⟩ := ⟨hrw.base_le (by omega), hl16, HBD.out⟩
                        have KEY := Lib.hid (fun (w10 : World) (A10 : Option Addr) (c10 : Nat) (hr10 : Row w10 ib 69 3 (.slice A10 (n9 + 1) c10) (n9 + 1) (gs.flatMap Pg.cells ++ [.int .i64 q1, .int .i64 r, .slice A2 m c2])) (hg10 : (W11.alloc (.cells #[.int .i64 q1, .int .i64 r, .slice A2 m c2] 69)).grownBy w10 (Value.slice A9 n9 c9).ownBlock) =>
                          (show ∃ gs2 : List Pg, n9 + 1 = gs2.length ∧ PgsOk bs (endOf fs) (p + 1) gs2 ∧ Blk (w10.setCell ⟨ib, 1, none⟩ (.slice A10 (n9 + 1) c10)) ib #[.int .u32 ent, .slice A10 (n9 + 1) c10] 41 ∧ PgS (w10.setCell ⟨ib, 1, none⟩ (.slice A10 (n9 + 1) c10)) ib (.slice A10 (n9 + 1) c10) gs2 ∧ Below ib W7 (w10.setCell ⟨ib, 1, none⟩ (.slice A10 (n9 + 1) c10)) from by
                            have hps9 := hps11.grow ((Below.refl W11.heap.size W11).alloc (Nat.le_refl _) (.cells #[.int .i64 q1, .int .i64 r, .slice A2 m c2] 69))
                            have hib9 := hib11.alloc (.cells #[.int .i64 q1, .int .i64 r, .slice A2 m c2] 69)
                            have hne := bp_row_blk hps9.row hib9 (by decide)
                            have hib10 := hib9.grown hg10 (fun e => hne e.symm)
                            have hf10 := Fr.of_grown hg10
                            have hown2 : Pg.own (W11.alloc (.cells #[.int .i64 q1, .int .i64 r, .slice A2 m c2] 69)) ib ⟨q1, r, A2, m, c2, D⟩ := ⟨hown.1.alloc _, hown.2⟩
                            have hpn := hps9.app (g := ⟨q1, r, A2, m, c2, D⟩) (by rw [HGS.out]; exact hr10) (hf10.mono (fun k _ h => h)) hown2
                            refine ⟨_, by rw [List.length_append, HGS.out]; rfl, HOK.out.snoc (g := ⟨q1, r, A2, m, c2, D⟩) HPQ.out HRR.out HHD.out, ?_, hpn.set hib10 (by decide) (by decide) _ _, ?_⟩
                            · have := hib10.set 1 (.slice A10 (n9 + 1) c10); simpa using this
                            · refine Below.setCell (p := ⟨ib, 1, none⟩) (B := ib) ?_ (Nat.le_refl _) _
                              have h1 : Below ib W7 (W11.alloc (.cells #[.int .i64 q1, .int .i64 r, .slice A2 m c2] 69)) := (hbp.trans (hx11g.mono (by omega))).alloc (by omega) _
                              exact h1.grown hg10 (by simp; omega) (fun k hk => (hps9.row.lt k hk).1)))
                        have hbpn : ¬ pb = W11.heap.size := by omega
                        have hibn : ¬ ib = W11.heap.size := by omega
                        have HQ2 : Hid (p + 1 + 1 = q1 + 1) := Lib.hid (by rw [HQ1.out])
                        have hpM : p + 1 ≤ (tot - 1) / 16 := by have := HA.out; omega
                        have HIB11 := Lib.hid hib11
                        have HNE := Lib.hid (bp_row_blk hrow11 hib11 (by decide))
                        clear hps11 hib11 hown hDt hx11 hx11g hbm2 hrw hib hbp hic hif
                        have hsplit : (((a : Int) + 16 ≤ (i9 : Int)) ∨ ((i9 : Int) < (a : Int) + 16 ∧ (tot : Int) ≤ (i9 : Int))) := by omega
                        rcases hsplit with hs9 | ⟨hs9, hs9b⟩
                        all_goals
                          go_wp2_with (at_builtin; refine wpList_append_row _ rfl (.tmp 113) (.tmp 115) 39 rfl ib 69 i1 (.agg #[.int .i64 0, .int .i64 0, .slice none 0 0]) 3 40 Try.underlying39 hi1 hz3 hz4 hz5 rfl (by decide) (.slice A9 n9 c9) n9 (gs.flatMap Pg.cells) rfl (hrow11.alloc _) (W11.heap.size + 1) (some ⟨W11.heap.size, 0, none⟩) 1 1 [.int .i64 q1, .int .i64 r, .slice A2 m c2] rfl (bp_reads W11 69 3 1 [.int .i64 q1, .int .i64 r, .slice A2 m c2] rfl) (one_pg ⟨q1, r, A2, m, c2, []⟩) (by unfold maxLen; omega) (by omega) (by simp; omega) ?_)
                          intro A10 c10 w10 hr10 hg10 ho10
                          have hib10 := (HIB11.out.alloc (.cells #[.int .i64 q1, .int .i64 r, .slice A2 m c2] 69)).grown hg10 (fun e => HNE.out e.symm)
                          have hc10 := hib10.cell
                          have hf10 := hib10.free
                          have hl10 := hib10.lt
                          obtain ⟨gs2, k1, k2, k3, k4, k5⟩ := KEY.out w10 A10 c10 hr10 hg10
                          have Q := Lib.hid (And.intro k1 (And.intro k2 (And.intro k3 (And.intro k4 k5))))
                          clear k1 k2 k3 k4 k5 hr10 hg10 ho10 hib10 KEY hrow11 hi9e
                          go_wp2
                          go_roundw
                          case rel => exact ⟨p + 1, gs2, A10, n9 + 1, c10, hpM, by rw [HQ2.out]; go_num, Q.out.1, Q.out.2.1, Q.out.2.2.1, Q.out.2.2.2.1, Q.out.2.2.2.2⟩
                          case measure => simp [intOf]; omega
end Go.Proofs.Ytmndmdipjfblhaa
