/- load.Image f15 (printed by mkLrD.py). -/
import Derived.Test.YtdgjcjhdclihpaaDoorLrC
import Derived.Test.YtdgjcjhdclihpaaDoorLdE
namespace Go.Proofs.YtdgjcjhdclihpaaDoor
open Go.RowKit
set_option maxHeartbeats 400000
set_option linter.unusedVariables false
set_option linter.unusedSimpArgs false
theorem good_iff {xs bs : List Int} {gs : List Pg} {er : Int} (h12 : 12 ≤ xs.length) (h512 : xs.length ≤ 512) (hp : pgsGo (xs.getD 3 0).toNat (restS xs) = some (gs.map Pg.key)) (hn : ∀ g ∈ gs, g.xs.length = g.n) (hf : FileIs (entryS xs) gs bs er) : Good xs ↔ er = 0 ∧ bs = xs := by
  constructor
  · rintro ⟨_, _, ks, h1, h2⟩
    rw [hp] at h1
    injection h1 with h1
    have h3 := h2.keys (gs' := gs) (by rw [pgs_key]; exact h1.symm) (pgs_n ks) hn
    obtain ⟨e1, e2⟩ := hf.unique h3
    exact ⟨e2, e1⟩
  · rintro ⟨rfl, rfl⟩
    exact ⟨h12, h512, _, hp, hf.keys (gs' := pgs (gs.map Pg.key)) (by rw [pgs_key]) hn (pgs_n _)⟩
theorem good_no {xs : List Int} (hp : pgsGo (xs.getD 3 0).toNat (restS xs) = none) : ¬ Good xs := by
  rintro ⟨_, _, ks, h1, _⟩
  rw [hp] at h1
  cases h1
theorem sign_beq {xs : List Int} (h : Byt xs) : ((strOfNums (xs.take 3)).toList == [82, 72, 49]) = decide (xs.take 3 = [82, 72, 49]) := by
  have := strOfNums_beq (xs := xs.take 3) (ys := [82, 72, 49]) (fun x hx => h x (List.mem_of_mem_take hx)) (fun x hx => by simp at hx; omega)
  rw [← this, strOfNums_toList [82, 72, 49]]
  rfl
/-- Pages that were read: how long they are. -/
def Small (gs : List Pg) : Prop := ∀ g ∈ gs, g.xs.length = g.n ∧ g.n ≤ 512 ∧ g.n ≤ g.c ∧ g.c ≤ 9223372036854775807
theorem Small.snoc {gs : List Pg} {g : Pg} (h : Small gs) (h1 : g.xs.length = g.n ∧ g.n ≤ 512 ∧ g.n ≤ g.c ∧ g.c ≤ 9223372036854775807) : Small (gs ++ [g]) := fun x hx => by
  rcases List.mem_append.1 hx with hx | hx
  · exact h x hx
  · simp at hx; subst hx; exact h1
theorem Small.big {gs : List Pg} {n : Nat} (h : Small gs) (hn : n ≤ 256) : Big n gs := ⟨by omega, fun g hg => by have := h g hg; exact ⟨by omega, this.2.2.1, this.2.2.2⟩⟩
/-- How far the pages have been read. -/
def Par (xs : List Int) (j : Nat) (r : List Int) (gs : List Pg) : Prop := pgsGo (xs.getD 3 0).toNat (restS xs) = (pgsGo ((xs.getD 3 0).toNat - j) r).map (gs.map Pg.key ++ ·)
theorem Par.start (xs : List Int) : Par xs 0 (restS xs) [] := by
  unfold Par
  rw [Nat.sub_zero]
  cases pgsGo (xs.getD 3 0).toNat (restS xs) <;> simp
theorem Par.bad {xs r : List Int} {j : Nat} {gs : List Pg} (h : Par xs j r gs) (hj : j < (xs.getD 3 0).toNat) (hb : r.length < 3 ∨ (r.length : Int) - 3 < r.getD 2 0) : ¬ Good xs := by
  apply good_no
  unfold Par at h
  obtain ⟨m, hm⟩ : ∃ m, (xs.getD 3 0).toNat - j = m + 1 := ⟨(xs.getD 3 0).toNat - j - 1, by omega⟩
  rw [h, hm, pgsGo_none (pgOf_bad hb)]
  rfl
theorem Par.next {xs r : List Int} {j : Nat} {gs : List Pg} {x : Pg} (h : Par xs j r gs) (hj : j < (xs.getD 3 0).toNat) (hg : ¬ (r.length < 3 ∨ (r.length : Int) - 3 < r.getD 2 0)) (hx : x.key = (r.getD 0 0, r.getD 1 0, (r.drop 3).take (r.getD 2 0).toNat)) :
    Par xs (j + 1) (r.drop (3 + (r.getD 2 0).toNat)) (gs ++ [x]) := by
  unfold Par at h ⊢
  obtain ⟨m, hm⟩ : ∃ m, (xs.getD 3 0).toNat - j = m + 1 := ⟨(xs.getD 3 0).toNat - j - 1, by omega⟩
  rw [h, hm, pgsGo_step (pgOf_some hg), show (xs.getD 3 0).toNat - (j + 1) = m by omega, map_snoc, List.map_append, ← hx]
  rfl
theorem Par.done {xs r : List Int} {gs : List Pg} (h : Par xs (xs.getD 3 0).toNat r gs) : pgsGo (xs.getD 3 0).toNat (restS xs) = some (gs.map Pg.key) := by
  unfold Par at h
  rw [h, Nat.sub_self]
  simp [pgsGo]
set_option maxHeartbeats 8000000 in
set_option maxRecDepth 100000 in
theorem image_any (A : Option Addr) (n c : Nat) (xs : List Int) (w : World) (h : RB w w.heap.size A n xs) (hnc : n ≤ c) (hcm : c ≤ 9223372036854775807) :
    Calls Tryd.prog 15 #[.slice A n c] w (ImgPost xs w) := by
  obtain ⟨i1, hi1, hz3, hz4, hz5⟩ := info_parts infoG
  have hl := h.len
  obtain ⟨wS, hwS⟩ : ∃ wS, wS = w.alloc (.cells #[.int .u32 0, .slice none 0 0] 25) := ⟨_, rfl⟩
  have hb1 : Below w.heap.size w wS := by rw [hwS]; exact (Below.refl _ _).alloc (Nat.le_refl _) _
  have hx : Blk wS w.heap.size #[.int .u32 0, .slice none 0 0] 25 := by rw [hwS]; exact Blk.new _ _ _
  have hsw := hx.lt
  obtain ⟨gr, hgr⟩ : ∃ g, w.heap.size = g := ⟨_, rfl⟩
  have HGR := Lib.hid hgr
  rw [hgr] at h hb1 hx hsw
  have HB1 := Lib.hid hb1
  have HX := Lib.hid hx
  have HW := Lib.hid hwS
  have HF : Hid (∀ W, Below gr w W → RB W gr A n xs) := Lib.hid (fun W hb => h.below' hb (Nat.le_refl _))
  have HBT := Lib.hid h.2
  have w1 : IntKind.i64.wrap ((n : Int) - 4) = (n : Int) - 4 := IntWalk.i64_in _ (by omega)
  have HBAD : Hid (¬ Good xs → ∀ W, Blk W gr #[.int .u32 0, .slice none 0 0] 25 → Below gr w W → ∀ v0 v1 : Value, v0 = .int .u32 0 → v1 = .slice none 0 0 → ImgPost xs w (.returned (.tuple #[.agg #[v0, v1], .int .i64 3])) ((W.setCell ⟨gr, 0, none⟩ v0).setCell ⟨gr, 1, none⟩ v1)) := Lib.hid (fun hg W _ hb v0 v1 e0 e1 => by
    subst e0; subst e1
    exact ImgPost.bad hg (by rw [HGR.out]; exact (hb.setCell (p := ⟨gr, 0, none⟩) (Nat.le_refl _) _).setCell (p := ⟨gr, 1, none⟩) (Nat.le_refl _) _))
  by_cases h12 : n < 12
  · have hng := Lib.hid (show ¬ Good xs from fun hh => by have := hh.1; omega)
    have h8 : (n : Int) - 4 < 8 := by omega
    clear h hb1 hx hgr
    have hgr := HGR.out
    go_enter Tryd.func15, Tryd.ntmps15
    go_wp2_with fail
    rw [← HW.out]
    refine wp_region_near wS.heap.size (by kernel_rfl) (by kernel_rfl) ?_
    repeat (go_big_quiet_step (fail))
    refine wpQuiet_nil ?_
    intro w2 hb2
    have hbl := HX.out.fr (Fr.of_grow hb2) (fun h => h)
    have hcl := hbl.cell
    have hll := hbl.lt
    have hfl := hbl.free
    have HFIN := Lib.hid (HBAD.out hng.out w2 hbl (HB1.out.trans (hb2.mono (by omega))) _ _ rfl rfl)
    clear hb2 hbl
    go_wp2
    refine bodyPost_ret (v := .tuple #[.agg #[.int .u32 0, .slice none 0 0], .int .i64 3]) (by simp [results, Tryd.results15, go_sem, hcl, hll]) rfl ?_
    exact HFIN.out
  obtain ⟨b, o, rfl, hb, _, _, _⟩ := h.at_ (show 0 < n by omega)
  have h8 : ¬ (n : Int) - 4 < 8 := by omega
  have d8 : decide ((n : Int) - 4 < 8) = false := by simp; omega
  by_cases h512 : 512 < n
  · have hng := Lib.hid (show ¬ Good xs from fun hh => by have := hh.2.1; omega)
    have h5 : (512 : Int) < n := by omega
    have d5 : decide ((512 : Int) < n) = true := by simp; omega
    clear h hb1 hx hgr
    have hgr := HGR.out
    go_enter Tryd.func15, Tryd.ntmps15
    go_wp2_with fail
    rw [← HW.out]
    refine wp_region_near wS.heap.size (by kernel_rfl) (by kernel_rfl) ?_
    repeat (go_big_quiet_step (fail))
    refine wpQuiet_nil ?_
    intro w2 hb2
    have hbl := HX.out.fr (Fr.of_grow hb2) (fun h => h)
    have hcl := hbl.cell
    have hll := hbl.lt
    have hfl := hbl.free
    have HFIN := Lib.hid (HBAD.out hng.out w2 hbl (HB1.out.trans (hb2.mono (by omega))) _ _ rfl rfl)
    clear hb2 hbl
    go_wp2
    refine bodyPost_ret (v := .tuple #[.agg #[.int .u32 0, .slice none 0 0], .int .i64 3]) (by simp [results, Tryd.results15, go_sem, hcl, hll]) rfl ?_
    exact HFIN.out
  have h5 : ¬ (512 : Int) < n := by omega
  have d5 : decide ((512 : Int) < n) = false := by simp; omega
  have hnear : ∀ x : Near wS.heap.size wS, Below gr w x.val := fun x => HB1.out.trans ((Near.prop x).mono (by omega))
  have hcv : ∀ x : Near wS.heap.size wS, (convert 26 9 (.slice (some ⟨b, o, none⟩) 3 c)).run Tryd.prog x.val = .ok (.string (strOfNums (xs.take 3))) x.val := fun x =>
    (rb_take (HF.out _ (hnear x)) (show 3 ≤ n by omega)).conv (P := Tryd.prog) c 26 9 5 Tryd.underlying26 Tryd.underlying5 Tryd.underlying9
  have hsg := sign_beq HBT.out
  have h3c : (3 : Int) ≤ c := by omega
  have h3c' : 3 ≤ c := by omega
  by_cases hs3 : xs.take 3 = [82, 72, 49]
  rotate_left
  · have hng := Lib.hid (show ¬ Good xs from fun hh => hs3 (good_sign hh).1)
    have hsb : ((strOfNums (xs.take 3)).toList == [82, 72, 49]) = false := by rw [hsg]; simpa using hs3
    clear h hb1 hx hgr hsg hs3 hnear
    generalize strOfNums (xs.take 3) = S3 at *
    have hgr := HGR.out
    go_enter Tryd.func15, Tryd.ntmps15
    go_wp2_with fail
    rw [← HW.out]
    refine wp_region_near wS.heap.size (by kernel_rfl) (by kernel_rfl) ?_
    repeat (go_big_quiet_step (fail))
    refine wpQuiet_nil ?_
    intro w2 hb2
    have hbl := HX.out.fr (Fr.of_grow hb2) (fun h => h)
    have hcl := hbl.cell
    have hll := hbl.lt
    have hfl := hbl.free
    have HFIN := Lib.hid (HBAD.out hng.out w2 hbl (HB1.out.trans (hb2.mono (by omega))) _ _ rfl rfl)
    clear hb2 hbl
    go_wp2
    refine bodyPost_ret (v := .tuple #[.agg #[.int .u32 0, .slice none 0 0], .int .i64 3]) (by simp [results, Tryd.results15, go_sem, hcl, hll]) rfl ?_
    exact HFIN.out
  have hsb : ((strOfNums (xs.take 3)).toList == [82, 72, 49]) = true := by rw [hsg]; simpa using hs3
  generalize strOfNums (xs.take 3) = S3 at *
  have hn4 : ((n - 4 : Nat) : Int) = (n : Int) - 4 := by omega
  have ht4 : ((n : Int) - 4).toNat = n - 4 := by omega
  have hc4 : (n : Int) - 4 ≤ c := by omega
  have h04 : (0 : Int) ≤ (n : Int) - 4 := by omega
  obtain ⟨A4, hA4, hsl⟩ := slice_cut (some ⟨b, o, none⟩) n c (n - 4) (by omega) hnc hcm
  rw [hn4, show n - (n - 4) = 4 by omega] at hsl
  have HWD : Hid (∀ x : Near wS.heap.size wS, Calls Tryd.prog 22 #[.slice A4 4 (c - (n - 4))] x.val (U32Is (wordS (xs.drop (n - 4))) x.val)) := Lib.hid (fun x => by
    have h1 := rb_cut (HF.out _ (hnear x)) (show n - 4 ≤ n by omega) hnc A4 hA4
    rw [show n - (n - 4) = 4 by omega] at h1
    exact word_any A4 4 (c - (n - 4)) _ x.val gr h1 (by have := (Near.prop x).size; omega) (Nat.le_refl _))
  have HSM : Hid (∀ x : Near wS.heap.size wS, Calls Tryd.prog 13 #[.slice (some ⟨b, o, none⟩) (n - 4) c] x.val (U32Is (sumS (xs.take (n - 4))) x.val)) := Lib.hid (fun x =>
    sum_any _ (n - 4) c _ x.val gr (rb_take (HF.out _ (hnear x)) (show n - 4 ≤ n by omega)) (by have := (Near.prop x).size; omega) (by omega))
  unfold U32Is at HWD HSM
  have HGS : Hid (Good xs → wordS (xs.drop (n - 4)) = sumS (xs.take (n - 4))) := Lib.hid (fun hh => by have := (good_sign hh).2; rw [hl] at this; exact this)
  generalize wordS (xs.drop (n - 4)) = X at *
  generalize sumS (xs.take (n - 4)) = Y at *
  by_cases hxy : X = Y
  rotate_left
  · have hng := Lib.hid (show ¬ Good xs from fun hh => hxy (HGS.out hh))
    have hxb : (X != Y) = true := by simpa using hxy
    clear h hb1 hx hgr hsg hs3 hnear hA4 hxy
    have hgr := HGR.out
    go_enter Tryd.func15, Tryd.ntmps15
    go_wp2_with fail
    rw [← HW.out]
    refine wp_region_near wS.heap.size (by kernel_rfl) (by kernel_rfl) ?_
    repeat (go_big_quiet_step (first | (go_at_call 22; exact Calls.near (Near.size _) (HWD.out _)) | (go_at_call 13; exact Calls.near (Near.size _) (HSM.out _))))
    refine wpQuiet_nil ?_
    intro w2 hb2
    have hbl := HX.out.fr (Fr.of_grow hb2) (fun h => h)
    have hcl := hbl.cell
    have hll := hbl.lt
    have hfl := hbl.free
    have HFIN := Lib.hid (HBAD.out hng.out w2 hbl (HB1.out.trans (hb2.mono (by omega))) _ _ rfl rfl)
    clear hb2 hbl
    go_wp2
    refine bodyPost_ret (v := .tuple #[.agg #[.int .u32 0, .slice none 0 0], .int .i64 3]) (by simp [results, Tryd.results15, go_sem, hcl, hll]) rfl ?_
    exact HFIN.out
  subst hxy
  have hxb : (X != X) = false := by simp
  clear h hb1 hx hgr hsg hs3 hnear hA4
  have hgr := HGR.out
  go_enter Tryd.func15, Tryd.ntmps15
  go_wp2_with fail
  rw [← HW.out]
  refine wp_region_near wS.heap.size (by kernel_rfl) (by kernel_rfl) ?_
  repeat (go_big_quiet_step (first | (go_at_call 22; exact Calls.near (Near.size _) (HWD.out _)) | (go_at_call 13; exact Calls.near (Near.size _) (HSM.out _))))
  refine wpQuiet_nil ?_
  intro w2 hb2
  have HB2 : Hid (Below gr w w2) := Lib.hid (HB1.out.trans (hb2.mono (by omega)))
  have HX2 : Hid (Blk w2 gr #[.int .u32 0, .slice none 0 0] 25) := Lib.hid (HX.out.fr (Fr.of_grow hb2) (fun h => h))
  have hs2 : gr < w2.heap.size := HX2.out.lt
  have HRB2 := Lib.hid (HF.out _ HB2.out)
  clear HX HB1 HW HWD HSM HGS hb2 hsl hcv hxb hsb
  obtain ⟨A5, hA5, hsl⟩ := slice_cut (some ⟨b, o, none⟩) n c 4 (by omega) hnc hcm
  have hr5 := rb_cut HRB2.out (show 4 ≤ n by omega) hnc A5 hA5
  have hsl' : ∀ w, (Instr.slice 26 (.slice (some ⟨b, o, none⟩) n c) (some (.int .i64 4)) none none).run Tryd.prog w = .ok (.slice A5 (n - 4) (c - 4)) w := hsl
  have HWD := Lib.hid (word_any A5 (n - 4) (c - 4) _ w2 gr hr5 (by omega) (by omega))
  have HEN : Hid (wordS (xs.drop 4) = entryS xs) := Lib.hid rfl
  have hen := wordS_rng (b := xs.drop 4) (fun x hx => HBT.out x (List.mem_of_mem_drop hx))
  generalize wordS (xs.drop 4) = E at *
  clear hr5 hA5 hsl
  go_wp2_with fail
  refine HWD.out.mono ?_
  rintro e' w3 ⟨rfl, hb3⟩
  have HB3 : Hid (Below gr w w3) := Lib.hid (HB2.out.trans (hb3.mono (by omega)))
  have HX3 := Lib.hid (HX2.out.fr (Fr.of_grow hb3) (fun h => h))
  have hs3' := hb3.size
  clear hsl' HWD HX2 hb3
  obtain ⟨A8, hA8, hsl⟩ := slice_two (some ⟨b, o, none⟩) n c 8 (n - 12) ((n : Int) - 4) (by omega) 8 rfl (by omega) hnc hcm
  obtain ⟨M, hM, hM2⟩ := at_nat HRB2.out (show 3 < n by omega)
  obtain ⟨b', o', e1, _, hc3, _, _⟩ := (HF.out _ HB3.out).at_ (show 3 < n by omega)
  injection e1 with e1
  injection e1 with e1 e1'
  subst e1; subst e1'
  rw [hM] at hc3
  have hMt : (xs.getD 3 0).toNat = M := by rw [hM]; exact Int.toNat_natCast _
  have HMT := Lib.hid hMt
  obtain ⟨w4, hw4⟩ : ∃ w4, w4 = w3.alloc (.cells #[.int .u32 E, .slice none 0 0] 25) := ⟨_, rfl⟩
  obtain ⟨gi, hgi⟩ : ∃ g, w3.heap.size = g := ⟨_, rfl⟩
  have hb4 : Below w3.heap.size w3 w4 := by rw [hw4]; exact (Below.refl _ _).alloc (Nat.le_refl _) _
  have hi4 : Blk w4 gi #[.int .u32 E, .slice none 0 0] 25 := by rw [hw4, ← hgi]; exact Blk.new _ _ _
  have hst0 : ImSt w4 (gi + 1) gi E none 0 0 [] := ⟨hi4, PgS.nil _ _, rfl, by omega, hi4.lt⟩
  have HB4 : Hid (Below gr w w4) := Lib.hid (HB3.out.trans (hb4.mono (by omega)))
  have HX4 := Lib.hid (HX3.out.fr (Fr.of_grow hb4) (fun h => h))
  have hr8 : RB w4 gr A8 (n - 12) (restS xs) := by
    have h1 := rb_take (rb_cut (HF.out _ HB4.out) (show 8 ≤ n by omega) hnc A8 hA8) (show n - 12 ≤ n - 8 by omega)
    unfold restS
    rw [hl]
    exact h1
  have HR8 := Lib.hid hr8
  have HST0 := Lib.hid hst0
  have HW4 := Lib.hid hw4
  have HSL := Lib.hid hsl
  have wM : IntKind.i64.wrap (M : Int) = M := IntWalk.i64_in _ (by omega)
  have hs4 : gi < w4.heap.size := hi4.lt
  have hgi2 : gr < gi := by omega
  have hbgi : b < gi := by omega
  have h3n : 3 < n := by omega
  have h3ni : (3 : Int) < n := by omega
  have HPS := Lib.hid (Par.start xs)
  clear hw4 hb4 hi4 hst0 hr8 hA8 hMt
  go_wp2_with fail
  rw [← HW4.out]
  clear HW4 hgi hsl HSL hc3 hM
  go_loopw [6, 51] (fun v6 i wr => ∃ (j : Nat) (Ar : Option Addr) (nr cr : Nat) (r : List Int) (A1 : Option Addr) (c1 : Nat) (gs : List Pg), j ≤ M ∧ i = .int .i64 j ∧ v6 = .slice Ar nr cr ∧ nr ≤ 512 ∧ nr ≤ cr ∧ cr ≤ 9223372036854775807 ∧ Hid (RB wr gr Ar nr r) ∧ Hid (Par xs j r gs) ∧ Hid (Small gs) ∧ Hid (ImSt wr (gi + 1) gi E A1 j c1 gs) ∧ Hid (FrG (gi + 1) gi w4 wr)) (fun _ i _ => M - (intOf i).toNat)
  case atStart => exact ⟨0, A8, n - 12, c - 8, _, none, 0, [], Nat.zero_le _, rfl, rfl, by omega, by omega, by omega, HR8, HPS, Lib.hid (fun g hg => by cases hg), HST0, Lib.hid (FrG.refl _ _ _)⟩
  case round =>
    obtain ⟨j, Ar, nr, cr, r, A1, c1, gs, hj, rfl, rfl, hnr, hncr, hcmr, hrb, hpar, hsm, hst, hfr⟩ := hrel
    have hbg : Below gi w4 wr := hfr.out.below (by omega) (by omega)
    have hsw2 := hbg.size
    have HBW : Hid (Below gr w wr) := Lib.hid (HB4.out.trans (hbg.mono (by omega)))
    have hblr := HX4.out.fr hfr.out (fun h => by rcases h with h | h <;> omega)
    have HXR := Lib.hid hblr
    clear hbg hblr
    by_cases hjn : j < M
    rotate_left
    · obtain rfl : j = M := by omega
      have hdone : pgsGo (xs.getD 3 0).toNat (restS xs) = some (gs.map Pg.key) := by
        have h1 := hpar.out
        rw [← HMT.out] at h1
        exact h1.done
      have HDN := Lib.hid hdone
      have hrp := hst.out.pgs.rp hst.out.len
      have HFI := Lib.hid (file_any E A1 j c1 gs wr wr.heap.size hrp (Nat.le_refl _) hen (hsm.out.big (by omega)))
      have hci := hst.out.blk.cell
      have hli := hst.out.blk.lt
      have hgw : gr < wr.heap.size := by omega
      clear hdone hrp hpar
      go_wp2_with fail
      refine HFI.out.mono ?_
      rintro e' w6 ⟨A6, n6, c6, bs, er, rfl, hf6, hr6, hb6⟩
      have HB6 : Hid (Below gr w w6) := Lib.hid (HBW.out.trans (hb6.mono (by omega)))
      have hbl := HXR.out.fr (Fr.of_grow hb6) (fun h => h)
      have HGD := Lib.hid (good_iff (by omega) (by omega) HDN.out (fun g hg => (hsm.out g hg).1) (by rw [← HEN.out]; exact hf6))
      have HEQ := Lib.hid (equal_any A6 (some ⟨b, o, none⟩) n6 c6 n c bs xs w6 w6.heap.size gr hr6 (HF.out _ HB6.out))
      have hst6 := hst.out.grow hb6
      have HST6 := Lib.hid hst6
      clear hf6 hr6 hb6 HFI hci hli hst6 hst
      by_cases her : er = 0
      rotate_left
      · have hng := Lib.hid (show ¬ Good xs from fun hh => her (HGD.out.1 hh).1)
        have heb : (er != 0) = true := by simpa using her
        clear her
        have hcl := hbl.cell
        have hll := hbl.lt
        have hfl := hbl.free
        have HFIN := Lib.hid (HBAD.out hng.out w6 hbl HB6.out _ _ rfl rfl)
        clear hbl
        go_wp2
        refine bodyPost_ret (v := .tuple #[.agg #[.int .u32 0, .slice none 0 0], .int .i64 3]) (by simp [results, Tryd.results15, go_sem, hcl, hll]) rfl ?_
        exact HFIN.out
      subst her
      by_cases hbs : bs = xs
      rotate_left
      · have hng := Lib.hid (show ¬ Good xs from fun hh => hbs (HGD.out.1 hh).2)
        have hd : decide (bs = xs) = false := by simpa using hbs
        rw [hd] at HEQ
        clear hbs hd
        go_wp2_with fail
        refine HEQ.out.mono ?_
        rintro e' w7 ⟨rfl, hw7⟩
        obtain rfl := hw7
        have hbl := hbl
        have hcl := hbl.cell
        have hll := hbl.lt
        have hfl := hbl.free
        have HFIN := Lib.hid (HBAD.out hng.out w7 hbl HB6.out _ _ rfl rfl)
        clear hbl
        go_wp2
        refine bodyPost_ret (v := .tuple #[.agg #[.int .u32 0, .slice none 0 0], .int .i64 3]) (by simp [results, Tryd.results15, go_sem, hcl, hll]) rfl ?_
        exact HFIN.out
      have hgood := Lib.hid (HGD.out.2 ⟨rfl, hbs⟩)
      have hd : decide (bs = xs) = true := by simpa using hbs
      rw [hd] at HEQ
      clear hbs hd
      go_wp2_with fail
      refine HEQ.out.mono ?_
      rintro e' w7 ⟨rfl, hw7⟩
      obtain rfl := hw7
      have hci := HST6.out.blk.cell
      have hli := HST6.out.blk.lt
      have hcl := hbl.cell
      have hll := hbl.lt
      have hfl := hbl.free
      have HFIN : Hid (∀ v0 v1 : Value, v0 = .int .u32 E → v1 = .slice A1 j c1 → ImgPost xs w (.returned (.tuple #[.agg #[v0, v1], .int .i64 0])) ((w7.setCell ⟨gr, 0, none⟩ v0).setCell ⟨gr, 1, none⟩ v1)) := Lib.hid (fun v0 v1 e0 e1 => by
        subst e0; subst e1
        have hp := (HST6.out.pgs.set hbl (by decide) (by decide) 0 (.int .u32 E)).set (hbl.set 0 (.int .u32 E)) (by decide) (by decide) 1 (.slice A1 j c1)
        exact ⟨E, A1, j, c1, gs, 0, rfl, .inl ⟨hgood.out, HEN.out, HDN.out, rfl⟩, hp.rp HST6.out.len, by omega, by rw [HGR.out]; exact (HB6.out.setCell (p := ⟨gr, 0, none⟩) (Nat.le_refl _) _).setCell (p := ⟨gr, 1, none⟩) (Nat.le_refl _) _⟩)
      have hgg : ¬ gr = gi := by omega
      clear hbl
      go_wp2
      refine bodyPost_ret (v := .tuple #[.agg #[.int .u32 E, .slice A1 j c1], .int .i64 0]) (by simp [results, Tryd.results15, go_sem, hcl, hll]) rfl ?_
      exact HFIN.out _ _ rfl rfl
    have hjM : j < (xs.getD 3 0).toNat := by rw [HMT.out]; exact hjn
    have hkn : (j : Int) < M := by omega
    have hk0 : (0 : Int) ≤ j := by omega
    have hrl := hrb.out.len
    have hgw : gr < wr.heap.size := by omega
    by_cases hbad : r.length < 3 ∨ (r.length : Int) - 3 < r.getD 2 0
    · have hng := Lib.hid (hpar.out.bad hjM hbad)
      have HPB := Lib.hid (page_bad Ar nr cr r wr gr hrb.out (by omega) hnr hbad)
      clear hbad hjM
      go_wp2_with fail
      refine HPB.out.mono ?_
      rintro e' w5 ⟨rfl, hb5⟩
      have hs5 := hb5.size
      have HB5 : Hid (Below gr w w5) := Lib.hid (HBW.out.trans (hb5.mono (by omega)))
      have hbl5 := HXR.out.fr (Fr.of_grow hb5) (fun h => h)
      have hcl5 := hbl5.cell
      have hll5 := hbl5.lt
      have hfl5 := hbl5.free
      have HFIN : Hid (∀ v0 v1 : Value, ImgPost xs w (.returned (.tuple #[.agg #[.int .u32 0, .slice none 0 0], .int .i64 3])) (((w5.setCell ⟨gr, 0, none⟩ v0).setCell ⟨gr, 1, none⟩ v1).alloc (.cells #[.int .i64 0, .int .i64 0, .slice none 0 0] 41))) := Lib.hid (fun v0 v1 => ImgPost.bad hng.out (by
        rw [HGR.out]
        exact ((HB5.out.setCell (p := ⟨gr, 0, none⟩) (Nat.le_refl _) v0).setCell (p := ⟨gr, 1, none⟩) (Nat.le_refl _) v1).alloc (by simp; omega) _))
      clear hb5 hbl5
      go_wp2
      refine bodyPost_ret (v := .tuple #[.agg #[.int .u32 0, .slice none 0 0], .int .i64 3]) (by simp [results, Tryd.results15, go_sem, hcl5, hll5]) rfl ?_
      exact HFIN.out _ _
    · have HPG := Lib.hid (page_good Ar nr cr r wr gr hrb.out (by omega) hnr hncr hcmr hbad)
      have HPN := Lib.hid (fun (x : Pg) (hx : x.key = (r.getD 0 0, r.getD 1 0, (r.drop 3).take (r.getD 2 0).toNat)) => hpar.out.next hjM hbad hx)
      have hTl : ((r.drop 3).take (r.getD 2 0).toNat).length ≤ 512 := by simp; omega
      have hRl : (r.drop (3 + (r.getD 2 0).toNat)).length ≤ 512 := by simp; omega
      have hTb : Byt ((r.drop 3).take (r.getD 2 0).toNat) := fun y hy => hrb.out.2 y (List.mem_of_mem_drop (List.mem_of_mem_take hy))
      have hp0 := hrb.out.rng 0
      have hp1 := hrb.out.rng 1
      clear hbad hjM hpar
      generalize (r.drop 3).take (r.getD 2 0).toNat = T at *
      generalize r.drop (3 + (r.getD 2 0).toNat) = R at *
      generalize r.getD 0 0 = p0 at *
      generalize r.getD 1 0 = p1 at *
      have HTB := Lib.hid hTb
      clear hTb
      go_wp2_with fail
      refine HPG.out.mono ?_
      rintro e' w6 ⟨A6, n6, c6, A7, n7, c7, rfl, hl6, hr6, hr7, hnc7, hcm7, hb6⟩
      dsimp only at hl6 hr6
      obtain ⟨A', c', es, hnc6, hcm6⟩ := hr6.shape
      injection es with e1 e2 e3
      subst e1; subst e3
      unfold maxLen at hcm6
      have hn7 := hr7.len
      obtain ⟨w8, hw8⟩ : ∃ w8, w8 = (w6.alloc (.cells #[.int .i64 p0, .int .i64 p1, .slice A6 n6 c6] 41)).alloc (.cells #[.int .i64 p0, .int .i64 p1, .slice A6 n6 c6] 41) := ⟨_, rfl⟩
      have hb8 : Below w6.heap.size w6 w8 := by rw [hw8]; exact ((Below.refl _ _).alloc (Nat.le_refl _) _).alloc (by simp) _
      have hs6 := hb6.size
      have hs8 := hb8.size
      have hb68 : Below wr.heap.size wr w8 := hb6.trans (hb8.mono hs6)
      have hst6 := hst.out.grow hb6
      have hst8 := hst.out.grow hb68
      have hgi6 : gi + 1 ≤ wr.heap.size := hst.out.base
      have hown : Pg.own w8 (gi + 1) ⟨p0, p1, A6, n6, c6, T⟩ := ⟨((OwnBs.of_row hr6 HTB.out).base hgi6).grow hb8, ⟨by show -9223372036854775808 ≤ p0; omega, by show p0 ≤ 9223372036854775807; omega⟩, ⟨by show -9223372036854775808 ≤ p1; omega, by show p1 ≤ 9223372036854775807; omega⟩, by show n6 ≤ 9223372036854775807; omega⟩
      have hrd : Reads w8 (w6.heap.size + 1 + 1) 3 (some ⟨w6.heap.size + 1, 0, none⟩) 1 (Pg.cells ⟨p0, p1, A6, n6, c6, T⟩) := by
        have h1 := reads_cells (w6.alloc (.cells #[.int .i64 p0, .int .i64 p1, .slice A6 n6 c6] 41)) 41 (Pg.cells ⟨p0, p1, A6, n6, c6, T⟩) (m := 1) (size := 3) rfl
        rw [hw8]
        simpa [Pg.cells] using h1
      have hrow8 := hst8.pgs.row
      rw [hst8.len] at hrow8
      have HROW8 := Lib.hid hrow8
      have HRD := Lib.hid hrd
      have HOWN := Lib.hid hown
      have HS8 := Lib.hid hst8
      have HB68 := Lib.hid hb68
      have HR7 := Lib.hid (hr7.below' hb8 (by omega))
      have HSM := Lib.hid (hsm.out.snoc (g := ⟨p0, p1, A6, n6, c6, T⟩) ⟨hl6, by show n6 ≤ 512; omega, hnc6, by show c6 ≤ 9223372036854775807; omega⟩)
      have HK := Lib.hid (HPN.out ⟨p0, p1, A6, n6, c6, T⟩ rfl)
      have hbs8 := hst8.base
      have hci := hst6.blk.cell
      have hli := hst6.blk.lt
      rw [hw8] at HROW8 HRD hbs8
      have HW8 := Lib.hid hw8
      clear hr6 hr7 hb6 hb8 hb68 hst6 hst8 hown hrd hrow8 hw8 HPG HPN hst
      go_wp2_with (at_builtin; refine wpList_append_row _ rfl (.tmp 63) (.tmp 65) 23 rfl (gi + 1) 41 i1 (.agg #[.int .i64 0, .int .i64 0, .slice none 0 0]) 3 40 Tryd.underlying23 hi1 hz3 hz4 hz5 rfl (by decide) (.slice A1 j c1) j (gs.flatMap Pg.cells) rfl HROW8.out _ (some ⟨w6.heap.size + 1, 0, none⟩) 1 1 (Pg.cells ⟨p0, p1, A6, n6, c6, T⟩) rfl HRD.out (one_pg _) (by unfold maxLen; omega) (by omega) hbs8 ?_)
      intro A9 c9 w9 hr9 hg9 ho9
      rw [← HW8.out] at hg9
      obtain ⟨hblk, hst9, hfr9⟩ := HS8.out.next hg9 hr9 HOWN.out
      have k9 := hblk.cell
      have l9 := hblk.lt
      have f9 := hblk.free
      have hb9 := hfr9.below (B := gr) (by omega) (fun k h => by omega)
      have HR9 := Lib.hid (HR7.out.below' hb9 (Nat.le_refl _))
      have HS9 := Lib.hid hst9
      have HF9 := Lib.hid (hfr.out.trans ((FrG.of_below HB68.out hgi6).trans hfr9))
      clear hr9 hg9 ho9 hblk hst9 hfr9 hci hli hb9
      go_wp2
      go_roundw
      case rel => exact ⟨j + 1, A7, n7, c7, R, A9, c9, _, by omega, by go_num, rfl, by omega, hnc7, hcm7, HR9, HK, HSM, HS9, HF9⟩
      case measure => simp [intOf]; omega
end Go.Proofs.YtdgjcjhdclihpaaDoor
