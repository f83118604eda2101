/- Contract of ringref4.BindBytes. -/
import Derived.Test.YtmndmdipjfblhaaBlE
namespace Go.Proofs.Ytmndmdipjfblhaa
open Go.RowKit
set_option maxHeartbeats 400000
set_option linter.unusedVariables false
set_option linter.unusedSimpArgs false
def bz (x : Int) (p : Nat) : Int := x / (256 : Int) ^ p
theorem bz_zero (x : Int) : bz x 0 = x := by simp [bz]
theorem bz_succ {x : Int} (h : 0 ≤ x) (p : Nat) : bz x p / 256 = bz x (p + 1) := by
  unfold bz
  rw [Int.pow_succ, Int.ediv_ediv_of_nonneg (Int.pow_nonneg (by omega))]
theorem bz_byte (x : Int) {p : Nat} (hp : p < 4) : bz x p % 256 = (wb x).getD p 0 := by
  rcases (by omega : p = 0 ∨ p = 1 ∨ p = 2 ∨ p = 3) with rfl | rfl | rfl | rfl <;> simp [bz, wb]
theorem bz_rng {x : Int} (h : 0 ≤ x ∧ x < 4294967296) (p : Nat) : 0 ≤ bz x p ∧ bz x p < 4294967296 := by
  unfold bz
  have h1 : (0 : Int) < 256 ^ p := Int.pow_pos (by omega)
  refine ⟨Int.ediv_nonneg h.1 (by omega), ?_⟩
  have := Int.ediv_le_self (256 ^ p) h.1
  omega
def toOf (o : Option Int) : Int := o.getD (-1)
theorem there_of {ad : List UInt8 → Option Int} {ds : List Nd} (h : ∀ d ∈ ds, (ad d.key).isSome = true) : thereB ad ds = true := by
  unfold thereB; rw [List.all_eq_true]; exact h
set_option maxHeartbeats 2000000 in
set_option maxRecDepth 100000 in
theorem bindBytes_any (hchk : ∀ (o : Ob) (w : World) (B : Nat), o.Read w B → B ≤ w.heap.size → o.n2 ≤ o.c2 → o.c2 ≤ 9223372036854775807 → Calls Try.prog 22 #[.agg o.vals] w (ErrPost w (objErr o)))
    (A : Option Addr) (n c : Nat) (fs : List Fo) (w : World) (B : Nat) (h : RF w B A n fs) (hB : B ≤ w.heap.size) (hn : n ≤ 9223372036854775807) : Calls Try.prog 10 #[.slice A n c] w (ByPost w fs) := by
  obtain ⟨i0, hi, hz0, hz1, hz2⟩ := info_parts infoU8
  have HL := Lib.hid h.len
  have HR : RO w B A n (osOf fs) := h.ro
  have HC := Lib.hid (fun W (hb : Below w.heap.size w W) => bindPlaces_any hchk A n c (osOf fs) W B (HR.below' hb hB) (Nat.le_trans hB hb.size) hn)
  have HSP := Lib.hid (fun W (hb : Below w.heap.size w W) => bindSpots_any hchk A n c (osOf fs) W B (HR.below' hb hB) (Nat.le_trans hB hb.size) hn)
  unfold PlPost at HC
  unfold SpPost at HSP
  by_cases hE : plErr (osOf fs) = 0
  rotate_left
  · have e : Hid (byErr fs = plErr (osOf fs)) := Lib.hid (by unfold byErr; rw [if_neg hE])
    generalize plErr (osOf fs) = E at *
    have HE := Lib.hid hE
    have d : (E != 0) = true := by simpa using hE
    clear hE
    go_enter Try.func10, Try.ntmps10
    go_wp2_with fail
    refine (HC.out _ (Below.refl _ _)).mono ?_
    rintro e' w3 ⟨v, rfl, hr3, hb3⟩
    go_wp2
    go_ret2
    exact ByPost.bad e.out HE.out hb3
  obtain ⟨hsp, hpl⟩ := pl_zero hE
  obtain ⟨hpe, htot⟩ := sp_zero hsp
  obtain ⟨hl12, hfit⟩ := parts_zero hpe
  have hll : (osOf fs).length = fs.length := by simp [osOf]
  have hn12 : n ≤ 12 := by rw [← HL.out, ← hll]; exact hl12
  have HBE : Hid (byErr fs = if thereAll fs (plL (osOf fs)) = true then 0 else 4) := Lib.hid (by unfold byErr; rw [if_pos hE])
  have hns : ∀ o ∈ osOf fs, o.ns.length = o.n2 := fun o ho => (HR.2 o ho).rd.ns.len
  have hpl288 := ents_len hfit hns hl12 hpl
  have HADR := Lib.hid (adr_fit hfit hl12 hpl)
  have HEF := Lib.hid (en_fine (fun o ho y hy => ((HR.2 o ho).rd.ns.2 y hy).1) hpl)
  have HSL : Hid (spL (osOf fs) = spC (cI (osOf fs) (osOf fs).length) (dI (osOf fs) (osOf fs).length) (osOf fs).length) := Lib.hid (by unfold spL; rw [if_pos hsp])
  have HSN : Hid (spN (osOf fs) = n) := Lib.hid (by unfold spN; rw [if_pos hsp, hll, HL.out])
  have HST : Hid (spT (osOf fs) = (spTot (osOf fs) : Int)) := Lib.hid (by unfold spT; rw [if_pos hsp])
  have HOS := Lib.hid (hll.trans HL.out)
  rw [HSL.out, HSN.out, HST.out, hsp, HOS.out] at HSP
  rw [hE] at HC
  have HGE := Lib.hid (sp_ge (osOf fs))
  have HTOT := Lib.hid htot
  have HFIT := Lib.hid hfit
  have HCL := Lib.hid (cN_le hfit)
  have HEZ : Hid (∀ f ∈ fs, objErr f.o = 0) := Lib.hid (fun f hf => first_zero (by unfold partsErr at hpe; split at hpe; (cases hpe); exact hpe) f.o (List.mem_map_of_mem hf))
  clear hsp hpe hl12 hfit hll hE hpl hns htot HSL HSN HST
  obtain ⟨pl, hple⟩ : ∃ pl, pl = plL (osOf fs) := ⟨_, rfl⟩
  rw [← hple] at HC HBE HADR hpl288 HEF
  have HPL := Lib.hid hple
  clear hple
  go_enter Try.func10, Try.ntmps10
  go_wp2_with fail
  refine (HC.out _ (Below.refl _ _)).mono ?_
  rintro e' w3 ⟨v3, rfl, hr3, hb3⟩
  obtain ⟨AP, cP, rfl, hcP1, hcP2⟩ := hr3.shape
  have HRP := Lib.hid (⟨hr3.reads, rfl⟩ : RS En.cells 3 w3 w3.heap.size AP pl.length pl)
  have HB3 := Lib.hid hb3
  have hsz3 := hb3.size
  clear hr3
  go_wp2_with fail
  refine (HSP.out _ hb3).mono ?_
  rintro e' w4 ⟨v4, rfl, hr4, hb4⟩
  obtain ⟨AS, cS, rfl, hcS1, hcS2⟩ := hr4.shape
  have hbw4 := hb3.trans (hb4.mono hsz3)
  have HR4 := Lib.hid hr4
  obtain ⟨tot, htt⟩ : ∃ tot, tot = spTot (osOf fs) := ⟨_, rfl⟩
  rw [← htt] at HGE HTOT ⊢
  have HTT := Lib.hid htt
  have hge := HGE.out
  have hto := HTOT.out
  have hs34 := hb4.size
  have HB4 := Lib.hid hb4
  clear htt hb4 hr4 hb3
  go_wp2_with (refine wpList_make_full _ rfl (.tmp 36) (.tmp 36) 35 rfl w.heap.size 5 i0 _ 1 Try.underlying35 hi hz0 hz1 .i64 .i64 _ _ tot rfl rfl rfl rfl (by rw [hz2]; omega) (by simp only [maxLen]; omega) hbw4.size ?_; intro w5 hown5 hgr5)
  have hblk := own_blk hown5
  rw [show (Value.int .u8 0).cells = #[.int .u8 0] from rfl, made_out] at hblk
  have hb45 : Below w4.heap.size w4 w5 := (Below.refl _ _).grown hgr5 (Nat.le_refl _) (fun k hk => by cases hk)
  have hs4 := hbw4.size
  have hs45 := hb45.size
  have hglt := hblk.lt
  rw [show (List.replicate tot (0 : Int)) = outTo fs pl tot 0 from rfl] at hblk
  have HB5 : Hid (Below w.heap.size w w5) := Lib.hid (hbw4.trans (hb45.mono hs4))
  have HC5 : Hid (∀ p : Addr, p.block < w4.heap.size → w5.cell? p = w4.cell? p) := Lib.hid (fun p hp => hb45.cell hp)
  have HRP5 := Lib.hid ((Reads.below' HRP.out.1 HB4.out (Nat.le_refl _)).below' hb45 hs34)
  obtain ⟨go, hgo⟩ : ∃ go, go = w4.heap.size := ⟨_, rfl⟩
  rw [← hgo] at hblk hglt ⊢
  have HGO := Lib.hid hgo
  have hgow : w.heap.size ≤ go := by omega
  have hg3 : w3.heap.size ≤ go := by omega
  clear hown5 hgr5 hb45 hgo hs45 HRP HB4
  go_wp2
  go_loopw [40] (fun i wr => ∃ k : Nat, k ≤ n ∧ i = .int .i64 k ∧ Blk wr go ((outTo fs pl tot k).map (Value.int .u8)).toArray 5 ∧ Below go w5 wr ∧ Hid (thereAll (fs.take k) pl = true)) (fun i _ => n - (intOf i).toNat)
  case atStart => exact ⟨0, by omega, rfl, hblk, Below.refl _ _, Lib.hid rfl⟩
  case round =>
    clear hblk hglt
    obtain ⟨k, hk, rfl, hblk, hbr, hth⟩ := hrel
    have hglt := hblk.lt
    have hrs := hbr.size
    have hbW : Below w.heap.size w wr := HB5.out.trans (hbr.mono (by omega))
    by_cases hlt : k < n
    rotate_left
    · obtain rfl : k = n := by omega
      have e : Hid (byErr fs = 0) := Lib.hid (by rw [HBE.out, ← List.take_length (l := fs), HL.out, hth.out]; rfl)
      have hfin := Lib.hid (ByPost.good (w := w) (w' := wr) (fs := fs) (g := go) (n := tot) e.out HTT.out hto hgow (by rw [← HPL.out, HL.out]; exact hblk) hbW)
      clear hblk
      go_wp2
      go_ret2
      exact hfin.out
    · obtain ⟨b, o, f, rfl, hb, hx, hfd, hfull, z0, z1, z2, z3⟩ := (h.below' hbW hB).at_ hlt
      have hxo : (osOf fs)[k]? = some f.o := by unfold osOf; rw [List.getElem?_map, hx]; rfl
      have hfx := HFIT.out f.o (List.mem_of_getElem? hxo)
      have hnd := obj_nds (HEZ.out f (List.mem_of_getElem? hx))
      obtain ⟨hbd1, hbd2⟩ := sp_bounds hxo
      rw [← HTT.out] at hbd1 hbd2
      have hcl := HCL.out k (by rw [HOS.out]; omega)
      obtain ⟨gs, so, rfl, hgs, _, _, hcells⟩ := spot_lt HR4.out hlt
      have ks0 := hcells (k * 2) _ (spC_even _ _ hlt)
      have ks1 := hcells (k * 2 + 1) _ (spC_odd _ _ hlt)
      rw [show cI (osOf fs) n k = (cN (osOf fs) k : Int) from if_pos hlt] at ks0
      rw [show dI (osOf fs) n k = (dN (osOf fs) k : Int) from if_pos hlt, ← Nat.add_assoc] at ks1
      rw [← HC5.out _ hgs, ← hbr.cell (p := ⟨gs, so + k * 2, none⟩) (by rw [HGO.out]; exact hgs)] at ks0
      rw [← HC5.out _ hgs, ← hbr.cell (p := ⟨gs, so + k * 2 + 1, none⟩) (by rw [HGO.out]; exact hgs)] at ks1
      have hgsg : gs < go := by rw [HGO.out]; exact hgs
      have hgs2 : gs < wr.heap.size := by omega
      have hstepX := Lib.hid (show outTo fs pl tot (k + 1) = putL (putL (outTo fs pl tot k) (cN (osOf fs) k) (pBytes (wvs (adr pl) (cN (osOf fs) k) f.o.ds f.ws))) (dN (osOf fs) k) f.bs by rw [outTo, hfd])
      have hXl := outTo_len fs pl tot k
      have hWL := hfull.rw.len
      have hBL := hfull.rb.len
      have hbad := Lib.hid (fun j d (hj : f.o.ds[j]? = some d) (hq : adr pl d.key = none) => all_bad hx (pl := pl) (there_bad hj hq))
      have hgood := Lib.hid (fun hok => all_step hx (pl := pl) (there_of hok) hth.out)
      have hbB : B ≤ wr.heap.size := by omega
      have hn0 := hfx.n0
      have hn1 := hfx.n1
      have hW8 : ∃ W8, W8 = wr.alloc (.cells #[.slice f.o.A0 f.o.n0 f.o.c0, .slice f.o.A1 f.o.n1 f.o.c1, .slice f.o.A2 f.o.n2 f.o.c2, .slice f.o.A3 f.o.n3 f.o.c3] 51) := ⟨_, rfl⟩
      obtain ⟨W8, hW8⟩ := hW8
      have hq8 : Below wr.heap.size wr W8 := by rw [hW8]; exact (Below.refl _ _).alloc (Nat.le_refl _) _
      have hbx8 : Blk W8 wr.heap.size #[.slice f.o.A0 f.o.n0 f.o.c0, .slice f.o.A1 f.o.n1 f.o.c1, .slice f.o.A2 f.o.n2 f.o.c2, .slice f.o.A3 f.o.n3 f.o.c3] 51 := by rw [hW8]; exact Blk.new _ _ _
      have hfull8 := Lib.hid (hfull.below' hq8 hbB)
      have hblk8 := hblk.fr (Fr.of_grow hq8) (fun h => h)
      have hbr8 := Lib.hid (hbr.trans (hq8.mono (by omega)))
      have j0 := (hq8.cell (p := ⟨gs, so + k * 2, none⟩) hgs2).trans ks0
      have j1 := (hq8.cell (p := ⟨gs, so + k * 2 + 1, none⟩) hgs2).trans ks1
      have hs8 := hq8.size
      have HRP8 := Lib.hid (Reads.below' HRP5.out hbr8.out hg3)
      clear hfull hfd hxo hfx hcells ks0 ks1 hblk hbr hq8 hth
      obtain ⟨⟨A0, n0, c0, A1, n1, c1, A2, n2, c2, A3, n3, c3, ns, ds⟩, ws, bs⟩ := f
      dsimp only at z0 z1 z2 z3 hbd1 hbd2 hstepX hWL hBL hbx8 hbad hgood hn0 hn1 hW8 hnd
      have hpbl := pBytes_len (wvs (adr pl) (cN (osOf fs) k) ds ws)
      rw [wvs_len, hWL] at hpbl
      have HPB := Lib.hid (fun q p (hq : q < n0) (hp : p < 4) => (pBytes_at (ws := wvs (adr pl) (cN (osOf fs) k) ds ws) (k := q) (b := p) (by rw [wvs_len, hWL]; exact hq) hp).trans (by rw [wvs_getD (by rw [hWL]; exact hq)]))
      generalize pBytes (wvs (adr pl) (cN (osOf fs) k) ds ws) = pb at *
      generalize outTo fs pl tot k = X at *
      generalize cN (osOf fs) k = cn at *
      generalize dN (osOf fs) k = dn at *
      have hcx8 := hbx8.cell
      have hox8 := hbx8.lt
      have hgo8 := hblk8.lt
      have hgsn : ¬ gs = go := by omega
      have hwn : ¬ wr.heap.size = go := by omega
      have hwn' : ¬ go = wr.heap.size := by omega
      have hblk9 : Blk W8 go ((putL X cn (pb.take (4 * 0))).map (Value.int .u8)).toArray 5 := by simpa [putL] using hblk8
      clear hblk8
      obtain ⟨ob, hob⟩ : ∃ ob, ob = wr.heap.size := ⟨_, rfl⟩
      have hob8 : Hid (ob = wr.heap.size) := Lib.hid hob
      go_wp2_with fail
      rw [← hW8]
      rw [← hob]
      rw [← hob] at hbx8 hcx8 hox8 hwn hwn'
      have HW8 := Lib.hid hW8
      clear hob hW8 z0 z1 z2 z3
      go_wp2
      go_loopw [48] (fun i w' => ∃ q : Nat, q ≤ n0 ∧ i = .int .i64 q ∧ Blk w' go ((putL X cn (pb.take (4 * q))).map (Value.int .u8)).toArray 5 ∧ Fr (fun k => k = go) W8 w' ∧ Hid (∀ d ∈ ds, d.ad < 4 * (q : Int) → (adr pl d.key).isSome = true)) (fun i _ => n0 - (intOf i).toNat)
      case atStart => exact ⟨0, by omega, rfl, hblk9, Fr.refl _ _, Lib.hid (fun d hd h => by have := (hnd.fit d hd).2.2.1; omega)⟩
      case round =>
        clear hblk9 hcx8
        obtain ⟨q, hq, rfl, hbq, hfq, hisq⟩ := hrel
        rename World => W9
        have hbx9 := hbx8.fr hfq hwn
        have hcx9 := hbx9.cell
        have hox9 := hbx9.lt
        have hs9 := hfq.size
        have hgo9 := hbq.lt
        by_cases hql : q < n0
        rotate_left
        · obtain rfl : q = n0 := by omega
          have hbq2 : Blk W9 go ((putL (putL X cn pb) dn (bs.take 0)).map (Value.int .u8)).toArray 5 := by
            rw [List.take_of_length_le (by omega)] at hbq; simpa [putL] using hbq
          have his2 := Lib.hid (hgood.out (fun d hd => hisq.out d hd (hnd.fit d hd).2.2.2.1))
          have hXb : Hid ((putL X cn pb).length = tot) := Lib.hid (by rw [putL_len]; exact hXl)
          have HSX := Lib.hid (show outTo fs pl tot (k + 1) = putL (putL X cn pb) dn (bs.take n1) by rw [hstepX.out, List.take_of_length_le (by omega)])
          generalize putL X cn pb = Y at *
          clear hbq
          go_wp2
          go_loopw [125] (fun i w' => ∃ p : Nat, p ≤ n1 ∧ i = .int .i64 p ∧ Blk w' go ((putL Y dn (bs.take p)).map (Value.int .u8)).toArray 5 ∧ Fr (fun k => k = go) W8 w') (fun i _ => n1 - (intOf i).toNat)
          case atStart => exact ⟨0, by omega, rfl, hbq2, hfq⟩
          case round =>
            clear hbq2 hfq hbx9 hcx9 hox9 hs9 hgo9
            obtain ⟨p, hp, rfl, hbp, hfp⟩ := hrel
            rename World => W10
            have hgo10 := hbp.lt
            have hs10 := hfp.size
            by_cases hpl : p < n1
            · have l1 := (hfp.cell (p := ⟨gs, so + k * 2 + 1, none⟩) (by simp; omega) hgsn).trans j1
              obtain ⟨b6, o6, e6, hb6, hc6, hr6⟩ := (hfull8.out.rb.below' (B' := B) (hfp.below (by omega) (fun k hk => by omega)) (Nat.le_refl _)).at_ hpl
              dsimp only at e6
              subst e6
              have hbn := blk_put hbp (by omega : p < bs.length) _ rfl
              have hfn := Lib.hid (fun y => hfp.setCell (p := ⟨go, dn + p, none⟩) (fun _ => rfl) y)
              have hce : ∃ z, W10.cell? ⟨go, dn + p, none⟩ = some z := by
                rw [hbp.cell]
                exact ⟨_, List.getElem?_toArray.trans (List.getElem?_eq_getElem (by rw [List.length_map, putL_len, hXb.out]; omega))⟩
              obtain ⟨z9, hce⟩ := hce
              have hfz := hbp.free (dn + p)
              have hbd : dn + p < tot := by omega
              replace hbn := Lib.hid hbn
              have hgs10 : gs < W10.heap.size := by omega
              clear hbp
              generalize bs.getD p 0 = y at *
              go_wp2
              go_roundw
              case rel => exact ⟨p + 1, by omega, by go_num, hbn.out, hfn.out _⟩
              case measure => simp [intOf]; omega
            · obtain rfl : p = n1 := by omega
              have hfin := Lib.hid (show Blk W10 go ((outTo fs pl tot (k + 1)).map (Value.int .u8)).toArray 5 by rw [HSX.out]; exact hbp)
              have hbf := Lib.hid (show Below go w5 W10 from hbr8.out.trans (hfp.below (by omega) (fun k hk => by omega)))
              clear hbp hfp
              go_wp2
              go_roundw
              case rel => exact ⟨k + 1, by omega, by go_num, hfin.out, hbf.out, his2⟩
              case measure => simp [intOf]; omega
        · obtain ⟨b6, o6, e6, hb6, hc6⟩ := (hfull8.out.rw.below' (B' := B) (hfq.below (by omega) (fun k hk => by omega)) (Nat.le_refl _)).at_ hql
          dsimp only at e6 hc6
          subst e6
          have hws0 : 0 ≤ ws.getD q 0 ∧ ws.getD q 0 < 4294967296 := hfull8.out.wr _ (by simp [List.getD, List.getElem?_eq_getElem (by omega : q < ws.length)])
          have hw0 : wv (adr pl) cn (ds.take 0) ws q = ws.getD q 0 := rfl
          have HDS : Hid (RD W8 B A3 n3 ds) := Lib.hid hfull8.out.fine.rd.ds
          have HDL : Hid (ds.length = n3) := Lib.hid hfull8.out.fine.rd.ds.len
          have hn3 : n3 ≤ 9223372036854775807 := hfull8.out.fine.rd.m3
          have HWR : Hid (0 ≤ wv (adr pl) cn ds ws q ∧ wv (adr pl) cn ds ws q < 4294967296) := Lib.hid (wv_rng (lc := n0) hfull8.out.wr HADR.out q)
          have hqb : (q : Int) < 128 := by omega
          have HND := Lib.hid hnd
          rw [← hw0] at hc6
          have HOLD := Lib.hid (fun j d (hj : ds[j]? = some d) (e : d.ad = 4 * (q : Int)) => wv_old (ad := adr pl) (beg := cn) (ws := ws) hnd hj e)
          have HHIT := Lib.hid (fun j d (hj : ds[j]? = some d) (e : d.ad = 4 * (q : Int)) => wv_hit (ad := adr pl) (beg := cn) (ws := ws) hnd hj e)
          have HMISS := Lib.hid (fun j d (hj : ds[j]? = some d) (e : d.ad ≠ 4 * (q : Int)) => wv_miss (ad := adr pl) (beg := cn) (ws := ws) hj e)
          have HEND : Hid (wv (adr pl) cn (ds.take n3) ws q = wv (adr pl) cn ds ws q) := Lib.hid (by rw [← HDL.out, List.take_length])
          clear hw0
          obtain ⟨F, hF⟩ : ∃ F : Nat → Int, F = fun j => wv (adr pl) cn (ds.take j) ws q := ⟨_, rfl⟩
          have hF' : ∀ j, wv (adr pl) cn (ds.take j) ws q = F j := fun j => by rw [hF]
          simp only [hF'] at hc6 HOLD HHIT HMISS HEND
          clear hF hF'
          go_wp2
          go_loopw [13, 56] (fun x i w' => ∃ j : Nat, j ≤ n3 ∧ i = .int .i64 j ∧ x = .int .u32 (F j) ∧ Blk w' go ((putL X cn (pb.take (4 * q))).map (Value.int .u8)).toArray 5 ∧ Fr (fun k => k = go) W8 w' ∧ Hid (∀ d ∈ ds.take j, d.ad = 4 * (q : Int) → (adr pl d.key).isSome = true)) (fun _ i _ => n3 - (intOf i).toNat)
          case atStart => exact ⟨0, by omega, rfl, rfl, hbq, hfq, Lib.hid (fun d hd => by simp at hd)⟩
          case round =>
            clear hbq hbx9 hcx9 hox9 hs9 hgo9 hc6 hfq
            obtain ⟨j, hj, rfl, rfl, hbj, hfj, hij⟩ := hrel
            rename World => W10
            have hbx10 := hbx8.fr hfj hwn
            have hcx10 := hbx10.cell
            have hox10 := hbx10.lt
            have hs10 := hfj.size
            have hgo10 := hbj.lt
            by_cases hjl : j < n3
            rotate_left
            · obtain rfl : j = n3 := by omega
              rw [HEND.out]
              have hij2 : Hid (∀ d ∈ ds, d.ad = 4 * (q : Int) → (adr pl d.key).isSome = true) := Lib.hid (by rw [← HDL.out, List.take_length] at hij; exact hij.out)
              have hpbq := Lib.hid (fun p hp => HPB.out q p hql hp)
              have hwr := HWR.out
              generalize wv (adr pl) cn ds ws q = z at *
              have hbj0 : Blk W10 go ((putL X cn (pb.take (4 * q + 0))).map (Value.int .u8)).toArray 5 := hbj
              have HZ := Lib.hid (fun p => bz_succ hwr.1 p)
              have HZB := Lib.hid (fun p (hp : p < 4) => (bz_byte z hp).trans (hpbq.out p hp).symm)
              have HZR := Lib.hid (fun p => bz_rng hwr p)
              have hz0' := bz_zero z
              rw [← hz0']
              clear hbj
              go_wp2
              go_loopw [13, 19] (fun x i w' => ∃ p : Nat, p ≤ 4 ∧ i = .int .i64 p ∧ x = .int .u32 (bz z p) ∧ Blk w' go ((putL X cn (pb.take (4 * q + p))).map (Value.int .u8)).toArray 5 ∧ Fr (fun k => k = go) W8 w') (fun _ i _ => 4 - (intOf i).toNat)
              case atStart => exact ⟨0, by omega, rfl, rfl, hbj0, hfj⟩
              case round =>
                clear hbj0 hbx10 hcx10 hox10 hs10 hgo10 hfj hz0'
                obtain ⟨p, hp, rfl, rfl, hbp, hfp⟩ := hrel
                rename World => W11
                have hgo11 := hbp.lt
                have hs11 := hfp.size
                by_cases hpl : p < 4
                · have hbn := blk_put hbp (by omega : 4 * q + p < pb.length) _ rfl
                  have hfn := Lib.hid (fun y => hfp.setCell (p := ⟨go, cn + 4 * q + p, none⟩) (fun _ => rfl) y)
                  have e1 := HZB.out p hpl
                  have e2 := HZ.out p
                  have e3 := HZR.out p
                  rw [← e1, ← Nat.add_assoc cn (4 * q) p] at hbn
                  have hce : ∃ z, W11.cell? ⟨go, cn + 4 * q + p, none⟩ = some z := by
                    rw [hbp.cell]
                    exact ⟨_, List.getElem?_toArray.trans (List.getElem?_eq_getElem (by rw [List.length_map, putL_len]; omega))⟩
                  obtain ⟨z9, hce⟩ := hce
                  have hfz := hbp.free (cn + 4 * q + p)
                  have hbd : cn + 4 * q + p < tot := by omega
                  have l0 := (hfp.cell (p := ⟨gs, so + k * 2, none⟩) (by simp; omega) hgsn).trans j0
                  have hgs11 : gs < W11.heap.size := by omega
                  replace hbn := Lib.hid hbn
                  clear hbp e1
                  replace e2 := Lib.hid e2
                  generalize bz z p = zp at *
                  go_wp2
                  go_roundw
                  case rel => exact ⟨p + 1, by omega, by go_num, by rw [← e2.out], hbn.out, hfn.out _⟩
                  case measure => simp [intOf]; omega
                · obtain rfl : p = 4 := by omega
                  have hbp2 : Blk W11 go ((putL X cn (pb.take (4 * (q + 1)))).map (Value.int .u8)).toArray 5 := hbp
                  have his := Lib.hid (show ∀ d ∈ ds, d.ad < 4 * ((q + 1 : Nat) : Int) → (adr pl d.key).isSome = true from fun d hd hlt => by
                    have := (HND.out.fit d hd).2.2.2.2
                    rcases (by omega : d.ad < 4 * (q : Int) ∨ d.ad = 4 * (q : Int)) with h1 | h1
                    · exact hisq.out d hd h1
                    · exact hij2.out d hd h1)
                  clear hbp
                  go_wp2
                  go_roundw
                  case rel => exact ⟨q + 1, by omega, by go_num, hbp2, hfp, his⟩
                  case measure => simp [intOf]; omega
            · obtain ⟨b7, o7, rfl, hb7, hfn, y0, y1, y2⟩ := (HDS.out.below' (B' := B) (hfj.below (by omega) (fun k hk => by omega)) (Nat.le_refl _)).at_ hjl
              have hdj : Hid (ds[j]? = some (ds.getD j .zero)) := Lib.hid (by simp [List.getD, List.getElem?_eq_getElem (by rw [HDL.out]; exact hjl : j < ds.length)])
              have hfd := HND.out.fit _ (List.mem_of_getElem? hdj.out)
              generalize ds.getD j .zero = d at *
              have hold := Lib.hid (HOLD.out j d hdj.out)
              have hhit := Lib.hid (HHIT.out j d hdj.out)
              have hmiss := Lib.hid (HMISS.out j d hdj.out)
              have hbadj := Lib.hid (hbad.out j d hdj.out)
              have hadr := Lib.hid (fun a => HADR.out d.key a)
              have hkey : ∀ s : ByteArray, (s.toList == d.s.toList) = decide (s.data.toList = d.key) := fun s => bp_key_eq
              have htk : Hid (ds.take (j + 1) = ds.take j ++ [d]) := Lib.hid (by
                obtain ⟨h1, h2⟩ := List.getElem?_eq_some_iff.1 hdj.out
                rw [List.take_succ_eq_append_getElem h1, h2])
              have hijn := Lib.hid (show (d.ad = 4 * (q : Int) → (adr pl d.key).isSome = true) → ∀ x ∈ ds.take (j + 1), x.ad = 4 * (q : Int) → (adr pl x.key).isSome = true from fun hd x hx => by
                rw [htk.out] at hx
                rcases List.mem_append.1 hx with hx | hx
                · exact hij.out x hx
                · rw [List.mem_singleton] at hx; subst hx; exact hd)
              obtain ⟨key, hkd⟩ : ∃ key, d.key = key := ⟨_, rfl⟩
              rw [hkd] at hhit hbadj hadr hijn
              simp only [hkd] at hkey
              clear hkd htk
              obtain ⟨a, s, kd⟩ := d
              obtain ⟨hs, _, _⟩ := hfn
              obtain ⟨hk1, hk2, ha0, ha1, ham⟩ := hfd
              dsimp only at y0 y1 y2 hs hk1 hk2 ha0 ha1 ham hold hhit hmiss hijn hkey
              by_cases hda : a = 4 * (q : Int)
              rotate_left
              · have hne : (a != 4 * (q : Int)) = true := by simpa using hda
                have hF1 := Lib.hid (hmiss.out hda)
                have hijm := Lib.hid (hijn.out (fun h => absurd h hda))
                have hb2 := Lib.hid (hbj.alloc (.cells #[.int .i64 a, .string s, .int .i64 kd] 65))
                have hf2 := Lib.hid (hfj.alloc (.cells #[.int .i64 a, .string s, .int .i64 kd] 65))
                clear hda hbj hfj
                go_wp2
                go_roundw
                case rel => exact ⟨j + 1, by omega, by go_num, by rw [hF1.out], hb2.out, hf2.out, hijm⟩
                case measure => simp [intOf]; omega
              · subst hda
                have e1 := Lib.hid (hold.out rfl)
                have e2 := Lib.hid (hhit.out rfl)
                have hb2 := hbj.alloc (.cells #[.int .i64 (4 * (q : Int)), .string s, .int .i64 kd] 65)
                have hf2 := hfj.alloc (.cells #[.int .i64 (4 * (q : Int)), .string s, .int .i64 kd] 65)
                have hd2 : Blk (W10.alloc (.cells #[.int .i64 (4 * (q : Int)), .string s, .int .i64 kd] 65)) W10.heap.size #[.int .i64 (4 * (q : Int)), .string s, .int .i64 kd] 65 := Blk.new _ _ _
                obtain ⟨W11, hW11⟩ : ∃ W, W = W10.alloc (.cells #[.int .i64 (4 * (q : Int)), .string s, .int .i64 kd] 65) := ⟨_, rfl⟩
                rw [← hW11] at hb2 hf2 hd2
                have hs11 : W10.heap.size < W11.heap.size := hd2.lt
                have HRP11 := Lib.hid (Reads.below' HRP8.out (hf2.below (by omega) (fun k hk => by omega : ∀ k, k = go → go ≤ k)) hg3)
                have hw3g : w3.heap.size ≤ W11.heap.size := by omega
                clear hbj hfj hdj
                go_wp2_with fail
                rw [← hW11]
                have HW11 := Lib.hid hW11
                clear hW11
                go_wp2
                go_loopw [16, 67] (fun t i w' => ∃ m : Nat, m ≤ pl.length ∧ i = .int .i64 m ∧ t = .int .i64 (toOf (adr (pl.take m) key)) ∧ Below W11.heap.size W11 w') (fun _ i _ => pl.length - (intOf i).toNat)
                case atStart => exact ⟨0, by omega, rfl, rfl, Below.refl _ _⟩
                case round =>
                  obtain ⟨m, hm, rfl, rfl, hbm⟩ := hrel
                  rename World => W12
                  have hs12 := hbm.size
                  have hd12 := hd2.fr (Fr.of_grow hbm) (fun h => h)
                  have hdc := hd12.cell
                  have hdl := hd12.lt
                  by_cases hml : m < pl.length
                  · obtain ⟨b8, o8, x, rfl, hb8, hx8, x0, x1, x2⟩ := rs_en_at (⟨Reads.below' HRP11.out hbm hw3g, rfl⟩ : RS En.cells 3 W12 w3.heap.size AP pl.length pl) hml
                    have hst := Lib.hid (adr_snoc hx8 key)
                    have hxs := HEF.out x (List.mem_of_getElem? hx8)
                    have hke := hkey x.s
                    have hbm2 := Lib.hid (hbm.alloc hs12 (.cells #[.string x.s, .int .i64 x.part, .int .i64 x.ad] 33))
                    have hd13 := (hd12.alloc (.cells #[.string x.s, .int .i64 x.part, .int .i64 x.ad] 33))
                    clear hbm hx8
                    obtain ⟨xs, xp, xa, xw⟩ := x
                    rw [show (⟨xs, xp, xa, xw⟩ : En).key = xs.data.toList from rfl] at hst
                    dsimp only at x0 x1 x2 hke hxs hst
                    by_cases hkk : xs.data.toList = key
                    · have hst2 : Hid (adr (pl.take (m + 1)) key = some xa) := Lib.hid (by rw [hst.out, if_pos hkk.symm])
                      clear hst hke
                      go_wp2
                      go_roundw
                      case rel => exact ⟨m + 1, by omega, by go_num, by rw [hst2.out]; rfl, hbm2.out⟩
                      case measure => simp [intOf]; omega
                    · have hst2 : Hid (adr (pl.take (m + 1)) key = adr (pl.take m) key) := Lib.hid (by rw [hst.out, if_neg (fun h => hkk h.symm)])
                      clear hst hke
                      go_wp2
                      go_roundw
                      case rel => exact ⟨m + 1, by omega, by go_num, by rw [hst2.out], hbm2.out⟩
                      case measure => simp [intOf]; omega
                  · obtain rfl : m = pl.length := by omega
                    rw [List.take_length]
                    cases hq0 : adr pl key with
                    | none =>
                      have he : Hid (byErr fs = 4) := Lib.hid (by rw [HBE.out, hbadj.out hq0]; rfl)
                      have hfin := Lib.hid (show Below w.heap.size w W12 from HB5.out.trans ((hbr8.out.trans (hf2.below (by omega) (fun k hk => by omega : ∀ k, k = go → go ≤ k) |>.trans (hbm.mono (by omega)))).mono (by omega)))
                      rw [show toOf (none : Option Int) = -1 from rfl]
                      clear hq0 hbm
                      go_wp2
                      go_ret2
                      exact ByPost.bad he.out (by omega) hfin.out
                    | some to =>
                      obtain ⟨ht0, ht1⟩ := hadr.out to hq0
                      have hijm := Lib.hid (hijn.out (fun _ => by rw [hq0]; rfl))
                      have e3 := e2.out
                      rw [hq0] at e3
                      dsimp only [Option.getD_some] at e3
                      rw [← e1.out] at e3 hws0
                      have HPL := Lib.hid (fun W => asmPlace_any (F j) kd (cn + 4 * (q : Int)) to W hws0.1 hws0.2 hk1 hk2 (by omega) (by omega) ht0 ht1)
                      unfold PlaceP at HPL
                      rw [← e3] at HPL
                      rw [show toOf (some to) = to from rfl]
                      have htn : ¬ to < 0 := by omega
                      have hfr12 : Fr (fun k => k = go) W8 W12 := hf2.trans (Fr.of_below hbm) (fun k hk h => by omega)
                      have hb12 := Lib.hid (hb2.fr (Fr.of_below hbm) (fun h => by omega))
                      have l0 := (hfr12.cell (p := ⟨gs, so + k * 2, none⟩) (by simp; omega) hgsn).trans j0
                      have hgs12 : gs < W12.heap.size := by omega
                      have hfr := Lib.hid hfr12
                      clear hq0 e1 e2 e3 hbm hfr12 hws0
                      go_wp2_with fail
                      refine wp_region_quiet_lit (by kernel_rfl) (by kernel_rfl) ?_
                      repeat (go_big_quiet_step ((go_at_call 20; exact Calls.quiet_of_same (HPL.out _))))
                      refine wpQuiet_nil ?_
                      rintro _ ⟨nq, rfl⟩
                      go_wp2
                      go_roundw
                      case rel => exact ⟨j + 1, by omega, by go_num, rfl, hb12.out.drewN _, hfr.out.drewN _, hijm⟩
                      case measure => simp [intOf]; omega
end Go.Proofs.Ytmndmdipjfblhaa
