/- Contract of ringlaw1.uses and the law ringlaw1.AdmitSays. -/
import Derived.Test.YtjcbnanajelpjaaAdD
namespace Go.Proofs.Ytjcbnanajelpjaa
open Go.RowKit
set_option maxHeartbeats 400000
set_option linter.unusedVariables false
set_option linter.unusedSimpArgs false
theorem reads_cells (w : World) (t : TypeId) (s m : Nat) (xs : List Value) (hl : xs.length = m * s) : Reads (w.alloc (.cells xs.toArray t)) (w.heap.size + 1) s (some ⟨w.heap.size, 0, none⟩) m xs := by
  refine ⟨hl, fun _ => ⟨w.heap.size, 0, rfl, by omega, fun j u hu => ?_⟩⟩
  rw [(Blk.new w xs.toArray t).cell]
  simpa using hu
theorem Try.infoUse : (Try.prog.info? 63).map (fun i => (i.zero, i.size, i.bytes)) = some (some (.agg #[.int .i64 0, .int .i64 0]), 2, 16) := by kernel_rfl
def UsesPost (w : World) (n : Nat) (us : List Us) (e : Ending) (w' : World) : Prop := ∃ A c, e = .returned (.slice A n c) ∧ RU w' w'.heap.size A n us ∧ Below w.heap.size w w'
theorem flat_take {us : List Us} {k : Nat} (hk : k < us.length) : (us.take (k + 1)).flatMap Us.cells = (us.take k).flatMap Us.cells ++ (us.getD k .zero).cells := by
  rw [List.take_succ_eq_append_getElem hk, List.flatMap_append]
  simp [List.getD, List.getElem?_eq_getElem hk]
set_option maxRecDepth 100000 in
theorem uses_any (A : Option Addr) (n c : Nat) (us : List Us) (w : World) (B : Nat) (h : RU w B A n us) (hB : B ≤ w.heap.size) (hn : n * 16 ≤ 140737488355328) : Calls Try.prog 29 #[.slice A n c] w (UsesPost w n us) := by
  have HL := Lib.hid h.len
  obtain ⟨i0, hi, hz0, hz1, hz2⟩ := info_parts Try.infoUse
  go_enter Try.func29, Try.ntmps29
  go_wp2
  go_loopw [3, 8] (fun v i wr => ∃ k : Nat, k ≤ n ∧ i = .int .i64 k ∧ Row wr w.heap.size 63 2 v k ((us.take k).flatMap Us.cells) ∧ Below w.heap.size w wr) (fun _ i _ => n - (intOf i).toNat)
  case atStart => exact ⟨0, by omega, rfl, Row.nil _ _ _ _, Below.refl _ _⟩
  case round =>
    obtain ⟨k, hk, rfl, hr, hbw⟩ := hrel
    obtain ⟨A9, c9, rfl, hc1, hc2⟩ := hr.shape
    by_cases hlt : k < n
    · obtain ⟨b, o, rfl, hb, hme, c0, c1⟩ := (h.below' hbw hB).at_ hlt
      have HS := Lib.hid (flat_take (us := us) (k := k) (by rw [HL.out]; exact hlt))
      clear hme
      generalize us.getD k .zero = u at *
      obtain ⟨uc, up⟩ := u
      dsimp only at c0 c1
      have hsz := hbw.size
      have hrd : Reads ((wr.alloc (.cells #[.int .i64 uc, .int .i64 up] 67)).alloc (.cells #[.int .i64 uc, .int .i64 up] 63)) (wr.heap.size + 1 + 1) 2 (some ⟨wr.heap.size + 1, 0, none⟩) 1 [.int .i64 uc, .int .i64 up] := by
        have := reads_cells (wr.alloc (.cells #[.int .i64 uc, .int .i64 up] 67)) 63 2 1 [.int .i64 uc, .int .i64 up] rfl
        simpa using this
      go_wp2_with (at_builtin; refine wpList_append_row _ rfl (.tmp 12) (.tmp 18) 53 rfl w.heap.size 63 i0 (.agg #[.int .i64 0, .int .i64 0]) 2 16 Try.underlying53 hi hz0 hz1 hz2 rfl (by decide) (.slice A9 k c9) k ((us.take k).flatMap Us.cells) rfl ((hr.alloc _).alloc _) (wr.heap.size + 1 + 1) (some ⟨wr.heap.size + 1, 0, none⟩) 1 1 [.int .i64 uc, .int .i64 up] rfl hrd (by simp [Value.oneCell']) (by unfold maxLen; omega) (by omega) (by simp; omega) ?_)
      intro A1 c1' w1 hr1 hg1 ho1
      have hb1 : Below w.heap.size w w1 := ((hbw.alloc hsz _).alloc (by simp; omega) _).grown hg1 (by simp; omega) (fun k hk => (hr.lt k hk).1)
      have hr2 : Row w1 w.heap.size 63 2 (.slice A1 (k + 1) c1') (k + 1) ((us.take (k + 1)).flatMap Us.cells) := by rw [HS.out]; exact hr1
      clear hr1 hg1 ho1 hr hbw hrd
      go_wp2
      go_roundw
      case rel => exact ⟨k + 1, by omega, by go_num, hr2, hb1⟩
      case measure => simp [intOf]; omega
    · obtain rfl : k = n := by omega
      have e : us.take k = us := List.take_of_length_le (by rw [HL.out]; exact Nat.le_refl _)
      rw [e] at hr
      clear e
      go_wp2
      go_ret
      exact ⟨_, _, rfl, ⟨hr.reads, HL.out⟩, hbw⟩
theorem chk_zero : chkU [Us.zero] = 1 := by decide
theorem dem_law {t : Int} {u : Us} (h : 1 ≤ u.p) (ht : 0 ≤ t) : (t - t % u.p) / u.p = t / u.p := by
  have h1 := Int.mul_ediv_add_emod t u.p
  have : t - t % u.p = u.p * (t / u.p) := by omega
  rw [this, Int.mul_ediv_cancel_left _ (by omega)]
theorem dem2_w64 {t m : Int} {u : Us} (ht : 0 ≤ t ∧ t ≤ 100000) (hm : 0 ≤ m ∧ m ≤ 1600000) (h : 1 ≤ u.p ∧ u.p ≤ 30 ∧ 1 ≤ u.c ∧ u.c ≤ u.p) : wrap64 (m + wrap64 ((t - t % u.p) / u.p * u.c)) = demF t m u := by
  rw [dem_law h.1 ht.1]
  exact dem_w64 ht hm h
theorem RU.more {w : World} {B B' n : Nat} {A : Option Addr} {us : List Us} (h : RU w B A n us) (hB : B ≤ B') : RU w B' A n us := RS.more h hB
set_option maxHeartbeats 4000000 in
set_option maxRecDepth 100000 in
theorem law_admitSays (A : Option Addr) (n c : Nat) (us : List Us) (q t : Int) (w : World) (h : RU w w.heap.size A n us) (hn : n * 16 ≤ 140737488355328) :
    Calls Try.prog 6 #[.slice A n c, .int .i64 q, .int .i64 t] w fun e w' => e = .returned (.bool true) ∧ Below w.heap.size w w' := by
  have hn' : n ≤ 9223372036854775807 := by omega
  go_enter Try.func6, Try.ntmps6
  go_wp2_with fail
  refine (uses_any A n c us _ w.heap.size h (Nat.le_refl _) hn).mono ?_
  rintro e w1 ⟨A1, c1, rfl, hu1, hb1⟩
  by_cases hk : chkU us = 0
  · have HK := Lib.hid hk
    clear hk
    go_wp2_with fail
    refine (round_ok A1 n c1 us _ w1.heap.size hu1 (Nat.le_refl _) hn' HK.out).mono ?_
    rintro e w2 ⟨rfl, hx⟩
    have hb2 := hb1.trans (hx.mono hb1.size)
    have hu2 := (hu1.below' hx (Nat.le_refl _)).more hx.size
    clear hx hu1 hb1
    go_wp2_with fail
    refine (share_ok A1 n c1 us _ w2.heap.size hu2 (Nat.le_refl _) hn' HK.out).mono ?_
    rintro e w3 ⟨rfl, hx⟩
    have hb3 := hb2.trans (hx.mono hb2.size)
    have hu3 := (hu2.below' hx (Nat.le_refl _)).more hx.size
    clear hx hu2 hb2
    by_cases hq : 1 ≤ q ∧ q ≤ 4
    · by_cases ht : 0 ≤ t ∧ t ≤ 100000
      · as_aux_lemma =>
          go_wp2_with fail
          refine (fits_in A1 n c1 us q _ w3.heap.size hu3 (Nat.le_refl _) hn' HK.out hq).mono ?_
          rintro e w4 ⟨rfl, hx⟩
          have hb4 := hb3.trans (hx.mono hb3.size)
          have hu4 := (hu3.below' hx (Nat.le_refl _)).more hx.size
          clear hx hu3 hb3
          go_wp2_with fail
          refine (demand_in A1 n c1 us t _ w4.heap.size hu4 (Nat.le_refl _) hn' HK.out ht).mono ?_
          rintro e w5 ⟨rfl, hx⟩
          have hb5 := hb4.trans (hx.mono hb4.size)
          have hu5 := (hu4.below' hx (Nat.le_refl _)).more hx.size
          clear hx hu4 hb4
          go_wp2_with fail
          refine (usesR_any A n c us _ w.heap.size (h.below' hb5 (Nat.le_refl _)) hb5.size hn').mono ?_
          rintro e w6 ⟨rfl, hx⟩
          have hb6 := hb5.trans (hx.mono hb5.size)
          have hu6 := (hu5.below' hx (Nat.le_refl _)).more hx.size
          clear hx hu5 hb5
          go_wp2_with fail
          refine (chkU_any A1 n c1 us _ w6.heap.size hu6 (Nat.le_refl _) hn').mono ?_
          rintro e w7 ⟨rfl, hx⟩
          have hb7 := hb6.trans (hx.mono hb6.size)
          have hu7 := (hu6.below' hx (Nat.le_refl _)).more hx.size
          clear hx hu6 hb6
          have hz : RU (w7.alloc (.cells #[.int .i64 0, .int .i64 0] 63)) (w7.heap.size + 1) (some ⟨w7.heap.size, 0, none⟩) 1 [Us.zero] := ⟨reads_cells w7 63 2 1 [.int .i64 0, .int .i64 0] rfl, rfl⟩
          have hnn : (chkU us != chkU us) = false := by simp
          go_wp2_with fail
          refine (chkU_any (some ⟨w7.heap.size, 0, none⟩) 1 1 [Us.zero] _ _ hz (by simp) (by omega)).mono ?_
          rintro e w8 ⟨rfl, hx⟩
          rw [chk_zero]
          have hb8 := (hb7.alloc hb7.size _).trans (hx.mono (by have := hb7.size; simp; omega))
          clear hz hx hu7 hb7
          have hnn0 : (chkU us != 0) = false := by rw [HK.out]; rfl
          go_wp2_with fail
          refine (shareR_ok A n c us _ w.heap.size (h.below' hb8 (Nat.le_refl _)) hb8.size hn' HK.out).mono ?_
          rintro e w9 ⟨rfl, hx⟩
          have hb9 := hb8.trans (hx.mono hb8.size)
          clear hx hb8
          go_wp2_with fail
          refine (roundR_ok A n c us _ w.heap.size (h.below' hb9 (Nat.le_refl _)) hb9.size hn' HK.out).mono ?_
          rintro e w10 ⟨rfl, hx⟩
          have hb10 := hb9.trans (hx.mono hb9.size)
          clear hx hb9
          have hden := den_big HK.out
          have hlod : lowD us ≤ denOf us := Nat.div_le_self _ _
          have h1 : 0 ≤ q * (lowD us : Int) := Int.mul_nonneg (by omega) (by omega)
          have h2 : q * (lowD us : Int) ≤ 9316358251200 := by
            have : q * (lowD us : Int) ≤ 4 * 2329089562800 := Int.mul_le_mul hq.2 (by omega) (by omega) (by omega)
            omega
          clear hden hlod
          have e1 : (((roundP (ksOf us) : Nat) : Int) != ((roundP (ksOf us) : Nat) : Int)) = false := by simp
          have e2 : (((lowN us : Nat) : Int) != ((lowN us : Nat) : Int)) = false := by simp
          have e3 : (((lowD us : Nat) : Int) != ((lowD us : Nat) : Int)) = false := by simp
          have HL := Lib.hid h.len
          have HDL := Lib.hid (fun k => dem_take_le HK.out ht k)
          have HOK := Lib.hid (chk_ok HK.out).2
          generalize lowN us = lon at *
          generalize lowD us = lod at *
          generalize roundP (ksOf us) = rnd at *
          generalize chkU us = ck at *
          go_wp2
          go_loopw [20, 163] (fun nn i wr => ∃ k : Nat, k ≤ n ∧ i = .int .i64 k ∧ nn = .int .i64 ((us.take k).foldl (demF t) 0) ∧ Below w.heap.size w wr) (fun _ i _ => n - (intOf i).toNat)
          case atStart => exact ⟨0, by omega, rfl, rfl, hb10⟩
          case round =>
            clear hb10
            obtain ⟨k, hk, rfl, rfl, hbw⟩ := hrel
            have hm := HDL.out k
            have HALL := Lib.hid (usi_all (us := us) HL.out (f := demF t) (z := 0))
            by_cases hlt : k < n
            · obtain ⟨b, o, rfl, hb, hme, c0, c1'⟩ := (h.below' hbw (Nat.le_refl _)).at_ hlt
              have HS := Lib.hid (usi_take (us := us) (k := k) (by rw [HL.out]; exact hlt) (f := demF t) (z := 0))
              have hu := HOK.out _ hme
              clear hme
              generalize us.getD k .zero = u at *
              generalize (us.take k).foldl (demF t) 0 = m at *
              have HW := Lib.hid (dem2_w64 ht hm hu)
              obtain ⟨uc, up⟩ := u
              dsimp only at hu HW c0 c1'
              have hr1 : 0 ≤ t % up := Int.emod_nonneg _ (by omega)
              have hr2 : t % up ≤ t := by have := Int.emod_add_mul_ediv t up; have : 0 ≤ up * (t / up) := Int.mul_nonneg (by omega) (Int.ediv_nonneg ht.1 (by omega)); omega
              go_wp2
              go_quiet (fail)
              go_wp2
              go_roundw
              case rel => exact ⟨k + 1, by omega, by go_num, by rw [HS.out, ← HW.out], sl_below_drewN (hbw.alloc hbw.size _) _⟩
              case measure => simp [intOf]; omega
            · obtain rfl : k = n := by omega
              rw [HALL.out]
              generalize us.foldl (demF t) 0 = dd at *
              go_wp2
              go_ret
              exact ⟨sl_bool (by simp), hbw⟩
      · have ht' : t < 0 ∨ 100000 < t := by omega
        as_aux_lemma =>
          rcases ht' with ht1 | ht1
          · have ht' : t < 0 ∨ 100000 < t := .inl ht1
            go_wp2_with fail
            refine (fits_in A1 n c1 us q _ w3.heap.size hu3 (Nat.le_refl _) hn' HK.out hq).mono ?_
            rintro e w4 ⟨rfl, hx⟩
            have hb4 := hb3.trans (hx.mono hb3.size)
            have hu4 := (hu3.below' hx (Nat.le_refl _)).more hx.size
            clear hx hu3 hb3
            go_wp2_with fail
            refine (demand_out A1 n c1 us t _ w4.heap.size hu4 (Nat.le_refl _) hn' HK.out ht').mono ?_
            rintro e w5 ⟨rfl, hx⟩
            have hb5 := hb4.trans (hx.mono hb4.size)
            have hu5 := (hu4.below' hx (Nat.le_refl _)).more hx.size
            clear hx hu4 hb4
            go_wp2_with fail
            refine (usesR_any A n c us _ w.heap.size (h.below' hb5 (Nat.le_refl _)) hb5.size hn').mono ?_
            rintro e w6 ⟨rfl, hx⟩
            have hb6 := hb5.trans (hx.mono hb5.size)
            have hu6 := (hu5.below' hx (Nat.le_refl _)).more hx.size
            clear hx hu5 hb5
            go_wp2_with fail
            refine (chkU_any A1 n c1 us _ w6.heap.size hu6 (Nat.le_refl _) hn').mono ?_
            rintro e w7 ⟨rfl, hx⟩
            have hb7 := hb6.trans (hx.mono hb6.size)
            have hu7 := (hu6.below' hx (Nat.le_refl _)).more hx.size
            clear hx hu6 hb6
            have hz : RU (w7.alloc (.cells #[.int .i64 0, .int .i64 0] 63)) (w7.heap.size + 1) (some ⟨w7.heap.size, 0, none⟩) 1 [Us.zero] := ⟨reads_cells w7 63 2 1 [.int .i64 0, .int .i64 0] rfl, rfl⟩
            have hnn : (chkU us != chkU us) = false := by simp
            go_wp2_with fail
            refine (chkU_any (some ⟨w7.heap.size, 0, none⟩) 1 1 [Us.zero] _ _ hz (by simp) (by omega)).mono ?_
            rintro e w8 ⟨rfl, hx⟩
            rw [chk_zero]
            have hb8 := (hb7.alloc hb7.size _).trans (hx.mono (by have := hb7.size; simp; omega))
            clear hz hx hu7 hb7
            have hnn0 : (chkU us != 0) = false := by rw [HK.out]; rfl
            go_wp2_with fail
            refine (shareR_ok A n c us _ w.heap.size (h.below' hb8 (Nat.le_refl _)) hb8.size hn' HK.out).mono ?_
            rintro e w9 ⟨rfl, hx⟩
            have hb9 := hb8.trans (hx.mono hb8.size)
            clear hx hb8
            go_wp2_with fail
            refine (roundR_ok A n c us _ w.heap.size (h.below' hb9 (Nat.le_refl _)) hb9.size hn' HK.out).mono ?_
            rintro e w10 ⟨rfl, hx⟩
            have hb10 := hb9.trans (hx.mono hb9.size)
            clear hx hb9
            have hden := den_big HK.out
            have hlod : lowD us ≤ denOf us := Nat.div_le_self _ _
            have h1 : 0 ≤ q * (lowD us : Int) := Int.mul_nonneg (by omega) (by omega)
            have h2 : q * (lowD us : Int) ≤ 9316358251200 := by
              have : q * (lowD us : Int) ≤ 4 * 2329089562800 := Int.mul_le_mul hq.2 (by omega) (by omega) (by omega)
              omega
            clear hden hlod
            have e1 : (((roundP (ksOf us) : Nat) : Int) != ((roundP (ksOf us) : Nat) : Int)) = false := by simp
            have e2 : (((lowN us : Nat) : Int) != ((lowN us : Nat) : Int)) = false := by simp
            have e3 : (((lowD us : Nat) : Int) != ((lowD us : Nat) : Int)) = false := by simp
            generalize lowN us = lon at *
            generalize lowD us = lod at *
            generalize roundP (ksOf us) = rnd at *
            generalize chkU us = ck at *
            go_wp2
            go_ret
            exact ⟨sl_bool (by simp), hb10⟩
          · have ht' : t < 0 ∨ 100000 < t := .inr ht1
            have ht0 : ¬ t < 0 := by omega
            go_wp2_with fail
            refine (fits_in A1 n c1 us q _ w3.heap.size hu3 (Nat.le_refl _) hn' HK.out hq).mono ?_
            rintro e w4 ⟨rfl, hx⟩
            have hb4 := hb3.trans (hx.mono hb3.size)
            have hu4 := (hu3.below' hx (Nat.le_refl _)).more hx.size
            clear hx hu3 hb3
            go_wp2_with fail
            refine (demand_out A1 n c1 us t _ w4.heap.size hu4 (Nat.le_refl _) hn' HK.out ht').mono ?_
            rintro e w5 ⟨rfl, hx⟩
            have hb5 := hb4.trans (hx.mono hb4.size)
            have hu5 := (hu4.below' hx (Nat.le_refl _)).more hx.size
            clear hx hu4 hb4
            go_wp2_with fail
            refine (usesR_any A n c us _ w.heap.size (h.below' hb5 (Nat.le_refl _)) hb5.size hn').mono ?_
            rintro e w6 ⟨rfl, hx⟩
            have hb6 := hb5.trans (hx.mono hb5.size)
            have hu6 := (hu5.below' hx (Nat.le_refl _)).more hx.size
            clear hx hu5 hb5
            go_wp2_with fail
            refine (chkU_any A1 n c1 us _ w6.heap.size hu6 (Nat.le_refl _) hn').mono ?_
            rintro e w7 ⟨rfl, hx⟩
            have hb7 := hb6.trans (hx.mono hb6.size)
            have hu7 := (hu6.below' hx (Nat.le_refl _)).more hx.size
            clear hx hu6 hb6
            have hz : RU (w7.alloc (.cells #[.int .i64 0, .int .i64 0] 63)) (w7.heap.size + 1) (some ⟨w7.heap.size, 0, none⟩) 1 [Us.zero] := ⟨reads_cells w7 63 2 1 [.int .i64 0, .int .i64 0] rfl, rfl⟩
            have hnn : (chkU us != chkU us) = false := by simp
            go_wp2_with fail
            refine (chkU_any (some ⟨w7.heap.size, 0, none⟩) 1 1 [Us.zero] _ _ hz (by simp) (by omega)).mono ?_
            rintro e w8 ⟨rfl, hx⟩
            rw [chk_zero]
            have hb8 := (hb7.alloc hb7.size _).trans (hx.mono (by have := hb7.size; simp; omega))
            clear hz hx hu7 hb7
            have hnn0 : (chkU us != 0) = false := by rw [HK.out]; rfl
            go_wp2_with fail
            refine (shareR_ok A n c us _ w.heap.size (h.below' hb8 (Nat.le_refl _)) hb8.size hn' HK.out).mono ?_
            rintro e w9 ⟨rfl, hx⟩
            have hb9 := hb8.trans (hx.mono hb8.size)
            clear hx hb8
            go_wp2_with fail
            refine (roundR_ok A n c us _ w.heap.size (h.below' hb9 (Nat.le_refl _)) hb9.size hn' HK.out).mono ?_
            rintro e w10 ⟨rfl, hx⟩
            have hb10 := hb9.trans (hx.mono hb9.size)
            clear hx hb9
            have hden := den_big HK.out
            have hlod : lowD us ≤ denOf us := Nat.div_le_self _ _
            have h1 : 0 ≤ q * (lowD us : Int) := Int.mul_nonneg (by omega) (by omega)
            have h2 : q * (lowD us : Int) ≤ 9316358251200 := by
              have : q * (lowD us : Int) ≤ 4 * 2329089562800 := Int.mul_le_mul hq.2 (by omega) (by omega) (by omega)
              omega
            clear hden hlod
            have e1 : (((roundP (ksOf us) : Nat) : Int) != ((roundP (ksOf us) : Nat) : Int)) = false := by simp
            have e2 : (((lowN us : Nat) : Int) != ((lowN us : Nat) : Int)) = false := by simp
            have e3 : (((lowD us : Nat) : Int) != ((lowD us : Nat) : Int)) = false := by simp
            generalize lowN us = lon at *
            generalize lowD us = lod at *
            generalize roundP (ksOf us) = rnd at *
            generalize chkU us = ck at *
            go_wp2
            go_ret
            exact ⟨sl_bool (by simp), hb10⟩
    · have hq' : q < 1 ∨ 4 < q := by omega
      by_cases ht : 0 ≤ t ∧ t ≤ 100000
      · as_aux_lemma =>
          rcases hq' with hq1 | hq1
          · have hq' : q < 1 ∨ 4 < q := .inl hq1
            go_wp2_with fail
            refine (fits_out A1 n c1 us q _ w3.heap.size hu3 (Nat.le_refl _) hn' HK.out hq').mono ?_
            rintro e w4 ⟨rfl, hx⟩
            have hb4 := hb3.trans (hx.mono hb3.size)
            have hu4 := (hu3.below' hx (Nat.le_refl _)).more hx.size
            clear hx hu3 hb3
            go_wp2_with fail
            refine (demand_in A1 n c1 us t _ w4.heap.size hu4 (Nat.le_refl _) hn' HK.out ht).mono ?_
            rintro e w5 ⟨rfl, hx⟩
            have hb5 := hb4.trans (hx.mono hb4.size)
            have hu5 := (hu4.below' hx (Nat.le_refl _)).more hx.size
            clear hx hu4 hb4
            go_wp2_with fail
            refine (usesR_any A n c us _ w.heap.size (h.below' hb5 (Nat.le_refl _)) hb5.size hn').mono ?_
            rintro e w6 ⟨rfl, hx⟩
            have hb6 := hb5.trans (hx.mono hb5.size)
            have hu6 := (hu5.below' hx (Nat.le_refl _)).more hx.size
            clear hx hu5 hb5
            go_wp2_with fail
            refine (chkU_any A1 n c1 us _ w6.heap.size hu6 (Nat.le_refl _) hn').mono ?_
            rintro e w7 ⟨rfl, hx⟩
            have hb7 := hb6.trans (hx.mono hb6.size)
            have hu7 := (hu6.below' hx (Nat.le_refl _)).more hx.size
            clear hx hu6 hb6
            have hz : RU (w7.alloc (.cells #[.int .i64 0, .int .i64 0] 63)) (w7.heap.size + 1) (some ⟨w7.heap.size, 0, none⟩) 1 [Us.zero] := ⟨reads_cells w7 63 2 1 [.int .i64 0, .int .i64 0] rfl, rfl⟩
            have hnn : (chkU us != chkU us) = false := by simp
            go_wp2_with fail
            refine (chkU_any (some ⟨w7.heap.size, 0, none⟩) 1 1 [Us.zero] _ _ hz (by simp) (by omega)).mono ?_
            rintro e w8 ⟨rfl, hx⟩
            rw [chk_zero]
            have hb8 := (hb7.alloc hb7.size _).trans (hx.mono (by have := hb7.size; simp; omega))
            clear hz hx hu7 hb7
            have hnn0 : (chkU us != 0) = false := by rw [HK.out]; rfl
            go_wp2_with fail
            refine (shareR_ok A n c us _ w.heap.size (h.below' hb8 (Nat.le_refl _)) hb8.size hn' HK.out).mono ?_
            rintro e w9 ⟨rfl, hx⟩
            have hb9 := hb8.trans (hx.mono hb8.size)
            clear hx hb8
            go_wp2_with fail
            refine (roundR_ok A n c us _ w.heap.size (h.below' hb9 (Nat.le_refl _)) hb9.size hn' HK.out).mono ?_
            rintro e w10 ⟨rfl, hx⟩
            have hb10 := hb9.trans (hx.mono hb9.size)
            clear hx hb9
            have e1 : (((roundP (ksOf us) : Nat) : Int) != ((roundP (ksOf us) : Nat) : Int)) = false := by simp
            have e2 : (((lowN us : Nat) : Int) != ((lowN us : Nat) : Int)) = false := by simp
            have e3 : (((lowD us : Nat) : Int) != ((lowD us : Nat) : Int)) = false := by simp
            have HL := Lib.hid h.len
            have HDL := Lib.hid (fun k => dem_take_le HK.out ht k)
            have HOK := Lib.hid (chk_ok HK.out).2
            generalize lowN us = lon at *
            generalize lowD us = lod at *
            generalize roundP (ksOf us) = rnd at *
            generalize chkU us = ck at *
            go_wp2
            go_loopw [20, 163] (fun nn i wr => ∃ k : Nat, k ≤ n ∧ i = .int .i64 k ∧ nn = .int .i64 ((us.take k).foldl (demF t) 0) ∧ Below w.heap.size w wr) (fun _ i _ => n - (intOf i).toNat)
            case atStart => exact ⟨0, by omega, rfl, rfl, hb10⟩
            case round =>
              clear hb10
              obtain ⟨k, hk, rfl, rfl, hbw⟩ := hrel
              have hm := HDL.out k
              have HALL := Lib.hid (usi_all (us := us) HL.out (f := demF t) (z := 0))
              by_cases hlt : k < n
              · obtain ⟨b, o, rfl, hb, hme, c0, c1'⟩ := (h.below' hbw (Nat.le_refl _)).at_ hlt
                have HS := Lib.hid (usi_take (us := us) (k := k) (by rw [HL.out]; exact hlt) (f := demF t) (z := 0))
                have hu := HOK.out _ hme
                clear hme
                generalize us.getD k .zero = u at *
                generalize (us.take k).foldl (demF t) 0 = m at *
                have HW := Lib.hid (dem2_w64 ht hm hu)
                obtain ⟨uc, up⟩ := u
                dsimp only at hu HW c0 c1'
                have hr1 : 0 ≤ t % up := Int.emod_nonneg _ (by omega)
                have hr2 : t % up ≤ t := by have := Int.emod_add_mul_ediv t up; have : 0 ≤ up * (t / up) := Int.mul_nonneg (by omega) (Int.ediv_nonneg ht.1 (by omega)); omega
                go_wp2
                go_quiet (fail)
                go_wp2
                go_roundw
                case rel => exact ⟨k + 1, by omega, by go_num, by rw [HS.out, ← HW.out], sl_below_drewN (hbw.alloc hbw.size _) _⟩
                case measure => simp [intOf]; omega
              · obtain rfl : k = n := by omega
                rw [HALL.out]
                generalize us.foldl (demF t) 0 = dd at *
                go_wp2
                go_ret
                exact ⟨sl_bool (by simp), hbw⟩
          · have hq' : q < 1 ∨ 4 < q := .inr hq1
            have hq0 : ¬ q < 1 := by omega
            go_wp2_with fail
            refine (fits_out A1 n c1 us q _ w3.heap.size hu3 (Nat.le_refl _) hn' HK.out hq').mono ?_
            rintro e w4 ⟨rfl, hx⟩
            have hb4 := hb3.trans (hx.mono hb3.size)
            have hu4 := (hu3.below' hx (Nat.le_refl _)).more hx.size
            clear hx hu3 hb3
            go_wp2_with fail
            refine (demand_in A1 n c1 us t _ w4.heap.size hu4 (Nat.le_refl _) hn' HK.out ht).mono ?_
            rintro e w5 ⟨rfl, hx⟩
            have hb5 := hb4.trans (hx.mono hb4.size)
            have hu5 := (hu4.below' hx (Nat.le_refl _)).more hx.size
            clear hx hu4 hb4
            go_wp2_with fail
            refine (usesR_any A n c us _ w.heap.size (h.below' hb5 (Nat.le_refl _)) hb5.size hn').mono ?_
            rintro e w6 ⟨rfl, hx⟩
            have hb6 := hb5.trans (hx.mono hb5.size)
            have hu6 := (hu5.below' hx (Nat.le_refl _)).more hx.size
            clear hx hu5 hb5
            go_wp2_with fail
            refine (chkU_any A1 n c1 us _ w6.heap.size hu6 (Nat.le_refl _) hn').mono ?_
            rintro e w7 ⟨rfl, hx⟩
            have hb7 := hb6.trans (hx.mono hb6.size)
            have hu7 := (hu6.below' hx (Nat.le_refl _)).more hx.size
            clear hx hu6 hb6
            have hz : RU (w7.alloc (.cells #[.int .i64 0, .int .i64 0] 63)) (w7.heap.size + 1) (some ⟨w7.heap.size, 0, none⟩) 1 [Us.zero] := ⟨reads_cells w7 63 2 1 [.int .i64 0, .int .i64 0] rfl, rfl⟩
            have hnn : (chkU us != chkU us) = false := by simp
            go_wp2_with fail
            refine (chkU_any (some ⟨w7.heap.size, 0, none⟩) 1 1 [Us.zero] _ _ hz (by simp) (by omega)).mono ?_
            rintro e w8 ⟨rfl, hx⟩
            rw [chk_zero]
            have hb8 := (hb7.alloc hb7.size _).trans (hx.mono (by have := hb7.size; simp; omega))
            clear hz hx hu7 hb7
            have hnn0 : (chkU us != 0) = false := by rw [HK.out]; rfl
            go_wp2_with fail
            refine (shareR_ok A n c us _ w.heap.size (h.below' hb8 (Nat.le_refl _)) hb8.size hn' HK.out).mono ?_
            rintro e w9 ⟨rfl, hx⟩
            have hb9 := hb8.trans (hx.mono hb8.size)
            clear hx hb8
            go_wp2_with fail
            refine (roundR_ok A n c us _ w.heap.size (h.below' hb9 (Nat.le_refl _)) hb9.size hn' HK.out).mono ?_
            rintro e w10 ⟨rfl, hx⟩
            have hb10 := hb9.trans (hx.mono hb9.size)
            clear hx hb9
            have e1 : (((roundP (ksOf us) : Nat) : Int) != ((roundP (ksOf us) : Nat) : Int)) = false := by simp
            have e2 : (((lowN us : Nat) : Int) != ((lowN us : Nat) : Int)) = false := by simp
            have e3 : (((lowD us : Nat) : Int) != ((lowD us : Nat) : Int)) = false := by simp
            have HL := Lib.hid h.len
            have HDL := Lib.hid (fun k => dem_take_le HK.out ht k)
            have HOK := Lib.hid (chk_ok HK.out).2
            generalize lowN us = lon at *
            generalize lowD us = lod at *
            generalize roundP (ksOf us) = rnd at *
            generalize chkU us = ck at *
            go_wp2
            go_loopw [20, 163] (fun nn i wr => ∃ k : Nat, k ≤ n ∧ i = .int .i64 k ∧ nn = .int .i64 ((us.take k).foldl (demF t) 0) ∧ Below w.heap.size w wr) (fun _ i _ => n - (intOf i).toNat)
            case atStart => exact ⟨0, by omega, rfl, rfl, hb10⟩
            case round =>
              clear hb10
              obtain ⟨k, hk, rfl, rfl, hbw⟩ := hrel
              have hm := HDL.out k
              have HALL := Lib.hid (usi_all (us := us) HL.out (f := demF t) (z := 0))
              by_cases hlt : k < n
              · obtain ⟨b, o, rfl, hb, hme, c0, c1'⟩ := (h.below' hbw (Nat.le_refl _)).at_ hlt
                have HS := Lib.hid (usi_take (us := us) (k := k) (by rw [HL.out]; exact hlt) (f := demF t) (z := 0))
                have hu := HOK.out _ hme
                clear hme
                generalize us.getD k .zero = u at *
                generalize (us.take k).foldl (demF t) 0 = m at *
                have HW := Lib.hid (dem2_w64 ht hm hu)
                obtain ⟨uc, up⟩ := u
                dsimp only at hu HW c0 c1'
                have hr1 : 0 ≤ t % up := Int.emod_nonneg _ (by omega)
                have hr2 : t % up ≤ t := by have := Int.emod_add_mul_ediv t up; have : 0 ≤ up * (t / up) := Int.mul_nonneg (by omega) (Int.ediv_nonneg ht.1 (by omega)); omega
                go_wp2
                go_quiet (fail)
                go_wp2
                go_roundw
                case rel => exact ⟨k + 1, by omega, by go_num, by rw [HS.out, ← HW.out], sl_below_drewN (hbw.alloc hbw.size _) _⟩
                case measure => simp [intOf]; omega
              · obtain rfl : k = n := by omega
                rw [HALL.out]
                generalize us.foldl (demF t) 0 = dd at *
                go_wp2
                go_ret
                exact ⟨sl_bool (by simp), hbw⟩
      · have ht' : t < 0 ∨ 100000 < t := by omega
        as_aux_lemma =>
          rcases hq' with hq1 | hq1
          · have hq' : q < 1 ∨ 4 < q := .inl hq1
            rcases ht' with ht1 | ht1
            · have ht' : t < 0 ∨ 100000 < t := .inl ht1
              go_wp2_with fail
              refine (fits_out A1 n c1 us q _ w3.heap.size hu3 (Nat.le_refl _) hn' HK.out hq').mono ?_
              rintro e w4 ⟨rfl, hx⟩
              have hb4 := hb3.trans (hx.mono hb3.size)
              have hu4 := (hu3.below' hx (Nat.le_refl _)).more hx.size
              clear hx hu3 hb3
              go_wp2_with fail
              refine (demand_out A1 n c1 us t _ w4.heap.size hu4 (Nat.le_refl _) hn' HK.out ht').mono ?_
              rintro e w5 ⟨rfl, hx⟩
              have hb5 := hb4.trans (hx.mono hb4.size)
              have hu5 := (hu4.below' hx (Nat.le_refl _)).more hx.size
              clear hx hu4 hb4
              go_wp2_with fail
              refine (usesR_any A n c us _ w.heap.size (h.below' hb5 (Nat.le_refl _)) hb5.size hn').mono ?_
              rintro e w6 ⟨rfl, hx⟩
              have hb6 := hb5.trans (hx.mono hb5.size)
              have hu6 := (hu5.below' hx (Nat.le_refl _)).more hx.size
              clear hx hu5 hb5
              go_wp2_with fail
              refine (chkU_any A1 n c1 us _ w6.heap.size hu6 (Nat.le_refl _) hn').mono ?_
              rintro e w7 ⟨rfl, hx⟩
              have hb7 := hb6.trans (hx.mono hb6.size)
              have hu7 := (hu6.below' hx (Nat.le_refl _)).more hx.size
              clear hx hu6 hb6
              have hz : RU (w7.alloc (.cells #[.int .i64 0, .int .i64 0] 63)) (w7.heap.size + 1) (some ⟨w7.heap.size, 0, none⟩) 1 [Us.zero] := ⟨reads_cells w7 63 2 1 [.int .i64 0, .int .i64 0] rfl, rfl⟩
              have hnn : (chkU us != chkU us) = false := by simp
              go_wp2_with fail
              refine (chkU_any (some ⟨w7.heap.size, 0, none⟩) 1 1 [Us.zero] _ _ hz (by simp) (by omega)).mono ?_
              rintro e w8 ⟨rfl, hx⟩
              rw [chk_zero]
              have hb8 := (hb7.alloc hb7.size _).trans (hx.mono (by have := hb7.size; simp; omega))
              clear hz hx hu7 hb7
              have hnn0 : (chkU us != 0) = false := by rw [HK.out]; rfl
              go_wp2_with fail
              refine (shareR_ok A n c us _ w.heap.size (h.below' hb8 (Nat.le_refl _)) hb8.size hn' HK.out).mono ?_
              rintro e w9 ⟨rfl, hx⟩
              have hb9 := hb8.trans (hx.mono hb8.size)
              clear hx hb8
              go_wp2_with fail
              refine (roundR_ok A n c us _ w.heap.size (h.below' hb9 (Nat.le_refl _)) hb9.size hn' HK.out).mono ?_
              rintro e w10 ⟨rfl, hx⟩
              have hb10 := hb9.trans (hx.mono hb9.size)
              clear hx hb9
              have e1 : (((roundP (ksOf us) : Nat) : Int) != ((roundP (ksOf us) : Nat) : Int)) = false := by simp
              have e2 : (((lowN us : Nat) : Int) != ((lowN us : Nat) : Int)) = false := by simp
              have e3 : (((lowD us : Nat) : Int) != ((lowD us : Nat) : Int)) = false := by simp
              generalize lowN us = lon at *
              generalize lowD us = lod at *
              generalize roundP (ksOf us) = rnd at *
              generalize chkU us = ck at *
              go_wp2
              go_ret
              exact ⟨sl_bool (by simp), hb10⟩
            · have ht' : t < 0 ∨ 100000 < t := .inr ht1
              have ht0 : ¬ t < 0 := by omega
              go_wp2_with fail
              refine (fits_out A1 n c1 us q _ w3.heap.size hu3 (Nat.le_refl _) hn' HK.out hq').mono ?_
              rintro e w4 ⟨rfl, hx⟩
              have hb4 := hb3.trans (hx.mono hb3.size)
              have hu4 := (hu3.below' hx (Nat.le_refl _)).more hx.size
              clear hx hu3 hb3
              go_wp2_with fail
              refine (demand_out A1 n c1 us t _ w4.heap.size hu4 (Nat.le_refl _) hn' HK.out ht').mono ?_
              rintro e w5 ⟨rfl, hx⟩
              have hb5 := hb4.trans (hx.mono hb4.size)
              have hu5 := (hu4.below' hx (Nat.le_refl _)).more hx.size
              clear hx hu4 hb4
              go_wp2_with fail
              refine (usesR_any A n c us _ w.heap.size (h.below' hb5 (Nat.le_refl _)) hb5.size hn').mono ?_
              rintro e w6 ⟨rfl, hx⟩
              have hb6 := hb5.trans (hx.mono hb5.size)
              have hu6 := (hu5.below' hx (Nat.le_refl _)).more hx.size
              clear hx hu5 hb5
              go_wp2_with fail
              refine (chkU_any A1 n c1 us _ w6.heap.size hu6 (Nat.le_refl _) hn').mono ?_
              rintro e w7 ⟨rfl, hx⟩
              have hb7 := hb6.trans (hx.mono hb6.size)
              have hu7 := (hu6.below' hx (Nat.le_refl _)).more hx.size
              clear hx hu6 hb6
              have hz : RU (w7.alloc (.cells #[.int .i64 0, .int .i64 0] 63)) (w7.heap.size + 1) (some ⟨w7.heap.size, 0, none⟩) 1 [Us.zero] := ⟨reads_cells w7 63 2 1 [.int .i64 0, .int .i64 0] rfl, rfl⟩
              have hnn : (chkU us != chkU us) = false := by simp
              go_wp2_with fail
              refine (chkU_any (some ⟨w7.heap.size, 0, none⟩) 1 1 [Us.zero] _ _ hz (by simp) (by omega)).mono ?_
              rintro e w8 ⟨rfl, hx⟩
              rw [chk_zero]
              have hb8 := (hb7.alloc hb7.size _).trans (hx.mono (by have := hb7.size; simp; omega))
              clear hz hx hu7 hb7
              have hnn0 : (chkU us != 0) = false := by rw [HK.out]; rfl
              go_wp2_with fail
              refine (shareR_ok A n c us _ w.heap.size (h.below' hb8 (Nat.le_refl _)) hb8.size hn' HK.out).mono ?_
              rintro e w9 ⟨rfl, hx⟩
              have hb9 := hb8.trans (hx.mono hb8.size)
              clear hx hb8
              go_wp2_with fail
              refine (roundR_ok A n c us _ w.heap.size (h.below' hb9 (Nat.le_refl _)) hb9.size hn' HK.out).mono ?_
              rintro e w10 ⟨rfl, hx⟩
              have hb10 := hb9.trans (hx.mono hb9.size)
              clear hx hb9
              have e1 : (((roundP (ksOf us) : Nat) : Int) != ((roundP (ksOf us) : Nat) : Int)) = false := by simp
              have e2 : (((lowN us : Nat) : Int) != ((lowN us : Nat) : Int)) = false := by simp
              have e3 : (((lowD us : Nat) : Int) != ((lowD us : Nat) : Int)) = false := by simp
              generalize lowN us = lon at *
              generalize lowD us = lod at *
              generalize roundP (ksOf us) = rnd at *
              generalize chkU us = ck at *
              go_wp2
              go_ret
              exact ⟨sl_bool (by simp), hb10⟩
          · have hq' : q < 1 ∨ 4 < q := .inr hq1
            have hq0 : ¬ q < 1 := by omega
            rcases ht' with ht1 | ht1
            · have ht' : t < 0 ∨ 100000 < t := .inl ht1
              go_wp2_with fail
              refine (fits_out A1 n c1 us q _ w3.heap.size hu3 (Nat.le_refl _) hn' HK.out hq').mono ?_
              rintro e w4 ⟨rfl, hx⟩
              have hb4 := hb3.trans (hx.mono hb3.size)
              have hu4 := (hu3.below' hx (Nat.le_refl _)).more hx.size
              clear hx hu3 hb3
              go_wp2_with fail
              refine (demand_out A1 n c1 us t _ w4.heap.size hu4 (Nat.le_refl _) hn' HK.out ht').mono ?_
              rintro e w5 ⟨rfl, hx⟩
              have hb5 := hb4.trans (hx.mono hb4.size)
              have hu5 := (hu4.below' hx (Nat.le_refl _)).more hx.size
              clear hx hu4 hb4
              go_wp2_with fail
              refine (usesR_any A n c us _ w.heap.size (h.below' hb5 (Nat.le_refl _)) hb5.size hn').mono ?_
              rintro e w6 ⟨rfl, hx⟩
              have hb6 := hb5.trans (hx.mono hb5.size)
              have hu6 := (hu5.below' hx (Nat.le_refl _)).more hx.size
              clear hx hu5 hb5
              go_wp2_with fail
              refine (chkU_any A1 n c1 us _ w6.heap.size hu6 (Nat.le_refl _) hn').mono ?_
              rintro e w7 ⟨rfl, hx⟩
              have hb7 := hb6.trans (hx.mono hb6.size)
              have hu7 := (hu6.below' hx (Nat.le_refl _)).more hx.size
              clear hx hu6 hb6
              have hz : RU (w7.alloc (.cells #[.int .i64 0, .int .i64 0] 63)) (w7.heap.size + 1) (some ⟨w7.heap.size, 0, none⟩) 1 [Us.zero] := ⟨reads_cells w7 63 2 1 [.int .i64 0, .int .i64 0] rfl, rfl⟩
              have hnn : (chkU us != chkU us) = false := by simp
              go_wp2_with fail
              refine (chkU_any (some ⟨w7.heap.size, 0, none⟩) 1 1 [Us.zero] _ _ hz (by simp) (by omega)).mono ?_
              rintro e w8 ⟨rfl, hx⟩
              rw [chk_zero]
              have hb8 := (hb7.alloc hb7.size _).trans (hx.mono (by have := hb7.size; simp; omega))
              clear hz hx hu7 hb7
              have hnn0 : (chkU us != 0) = false := by rw [HK.out]; rfl
              go_wp2_with fail
              refine (shareR_ok A n c us _ w.heap.size (h.below' hb8 (Nat.le_refl _)) hb8.size hn' HK.out).mono ?_
              rintro e w9 ⟨rfl, hx⟩
              have hb9 := hb8.trans (hx.mono hb8.size)
              clear hx hb8
              go_wp2_with fail
              refine (roundR_ok A n c us _ w.heap.size (h.below' hb9 (Nat.le_refl _)) hb9.size hn' HK.out).mono ?_
              rintro e w10 ⟨rfl, hx⟩
              have hb10 := hb9.trans (hx.mono hb9.size)
              clear hx hb9
              have e1 : (((roundP (ksOf us) : Nat) : Int) != ((roundP (ksOf us) : Nat) : Int)) = false := by simp
              have e2 : (((lowN us : Nat) : Int) != ((lowN us : Nat) : Int)) = false := by simp
              have e3 : (((lowD us : Nat) : Int) != ((lowD us : Nat) : Int)) = false := by simp
              generalize lowN us = lon at *
              generalize lowD us = lod at *
              generalize roundP (ksOf us) = rnd at *
              generalize chkU us = ck at *
              go_wp2
              go_ret
              exact ⟨sl_bool (by simp), hb10⟩
            · have ht' : t < 0 ∨ 100000 < t := .inr ht1
              have ht0 : ¬ t < 0 := by omega
              go_wp2_with fail
              refine (fits_out A1 n c1 us q _ w3.heap.size hu3 (Nat.le_refl _) hn' HK.out hq').mono ?_
              rintro e w4 ⟨rfl, hx⟩
              have hb4 := hb3.trans (hx.mono hb3.size)
              have hu4 := (hu3.below' hx (Nat.le_refl _)).more hx.size
              clear hx hu3 hb3
              go_wp2_with fail
              refine (demand_out A1 n c1 us t _ w4.heap.size hu4 (Nat.le_refl _) hn' HK.out ht').mono ?_
              rintro e w5 ⟨rfl, hx⟩
              have hb5 := hb4.trans (hx.mono hb4.size)
              have hu5 := (hu4.below' hx (Nat.le_refl _)).more hx.size
              clear hx hu4 hb4
              go_wp2_with fail
              refine (usesR_any A n c us _ w.heap.size (h.below' hb5 (Nat.le_refl _)) hb5.size hn').mono ?_
              rintro e w6 ⟨rfl, hx⟩
              have hb6 := hb5.trans (hx.mono hb5.size)
              have hu6 := (hu5.below' hx (Nat.le_refl _)).more hx.size
              clear hx hu5 hb5
              go_wp2_with fail
              refine (chkU_any A1 n c1 us _ w6.heap.size hu6 (Nat.le_refl _) hn').mono ?_
              rintro e w7 ⟨rfl, hx⟩
              have hb7 := hb6.trans (hx.mono hb6.size)
              have hu7 := (hu6.below' hx (Nat.le_refl _)).more hx.size
              clear hx hu6 hb6
              have hz : RU (w7.alloc (.cells #[.int .i64 0, .int .i64 0] 63)) (w7.heap.size + 1) (some ⟨w7.heap.size, 0, none⟩) 1 [Us.zero] := ⟨reads_cells w7 63 2 1 [.int .i64 0, .int .i64 0] rfl, rfl⟩
              have hnn : (chkU us != chkU us) = false := by simp
              go_wp2_with fail
              refine (chkU_any (some ⟨w7.heap.size, 0, none⟩) 1 1 [Us.zero] _ _ hz (by simp) (by omega)).mono ?_
              rintro e w8 ⟨rfl, hx⟩
              rw [chk_zero]
              have hb8 := (hb7.alloc hb7.size _).trans (hx.mono (by have := hb7.size; simp; omega))
              clear hz hx hu7 hb7
              have hnn0 : (chkU us != 0) = false := by rw [HK.out]; rfl
              go_wp2_with fail
              refine (shareR_ok A n c us _ w.heap.size (h.below' hb8 (Nat.le_refl _)) hb8.size hn' HK.out).mono ?_
              rintro e w9 ⟨rfl, hx⟩
              have hb9 := hb8.trans (hx.mono hb8.size)
              clear hx hb8
              go_wp2_with fail
              refine (roundR_ok A n c us _ w.heap.size (h.below' hb9 (Nat.le_refl _)) hb9.size hn' HK.out).mono ?_
              rintro e w10 ⟨rfl, hx⟩
              have hb10 := hb9.trans (hx.mono hb9.size)
              clear hx hb9
              have e1 : (((roundP (ksOf us) : Nat) : Int) != ((roundP (ksOf us) : Nat) : Int)) = false := by simp
              have e2 : (((lowN us : Nat) : Int) != ((lowN us : Nat) : Int)) = false := by simp
              have e3 : (((lowD us : Nat) : Int) != ((lowD us : Nat) : Int)) = false := by simp
              generalize lowN us = lon at *
              generalize lowD us = lod at *
              generalize roundP (ksOf us) = rnd at *
              generalize chkU us = ck at *
              go_wp2
              go_ret
              exact ⟨sl_bool (by simp), hb10⟩
  · have HK := Lib.hid hk
    go_wp2_with fail
    refine (round_bad A1 n c1 us _ w1.heap.size hu1 (Nat.le_refl _) hn' HK.out).mono ?_
    rintro e w2 ⟨rfl, hx⟩
    have hb2 := hb1.trans (hx.mono hb1.size)
    have hu2 := (hu1.below' hx (Nat.le_refl _)).more hx.size
    clear hx hu1 hb1
    go_wp2_with fail
    refine (share_bad A1 n c1 us _ w2.heap.size hu2 (Nat.le_refl _) hn' HK.out).mono ?_
    rintro e w3 ⟨rfl, hx⟩
    have hb3 := hb2.trans (hx.mono hb2.size)
    have hu3 := (hu2.below' hx (Nat.le_refl _)).more hx.size
    clear hx hu2 hb2
    go_wp2_with fail
    refine (fits_bad A1 n c1 us q _ w3.heap.size hu3 (Nat.le_refl _) hn' HK.out).mono ?_
    rintro e w4 ⟨rfl, hx⟩
    have hb4 := hb3.trans (hx.mono hb3.size)
    have hu4 := (hu3.below' hx (Nat.le_refl _)).more hx.size
    clear hx hu3 hb3
    go_wp2_with fail
    refine (demand_bad A1 n c1 us t _ w4.heap.size hu4 (Nat.le_refl _) hn' HK.out).mono ?_
    rintro e w5 ⟨rfl, hx⟩
    have hb5 := hb4.trans (hx.mono hb4.size)
    have hu5 := (hu4.below' hx (Nat.le_refl _)).more hx.size
    clear hx hu4 hb4
    go_wp2_with fail
    refine (usesR_any A n c us _ w.heap.size (h.below' hb5 (Nat.le_refl _)) hb5.size hn').mono ?_
    rintro e w6 ⟨rfl, hx⟩
    have hb6 := hb5.trans (hx.mono hb5.size)
    have hu6 := (hu5.below' hx (Nat.le_refl _)).more hx.size
    clear hx hu5 hb5
    go_wp2_with fail
    refine (chkU_any A1 n c1 us _ w6.heap.size hu6 (Nat.le_refl _) hn').mono ?_
    rintro e w7 ⟨rfl, hx⟩
    have hb7 := hb6.trans (hx.mono hb6.size)
    have hu7 := (hu6.below' hx (Nat.le_refl _)).more hx.size
    clear hx hu6 hb6
    have hz : RU (w7.alloc (.cells #[.int .i64 0, .int .i64 0] 63)) (w7.heap.size + 1) (some ⟨w7.heap.size, 0, none⟩) 1 [Us.zero] := ⟨reads_cells w7 63 2 1 [.int .i64 0, .int .i64 0] rfl, rfl⟩
    have hnn : (chkU us != chkU us) = false := by simp
    go_wp2_with fail
    refine (chkU_any (some ⟨w7.heap.size, 0, none⟩) 1 1 [Us.zero] _ _ hz (by simp) (by omega)).mono ?_
    rintro e w8 ⟨rfl, hx⟩
    rw [chk_zero]
    have hb8 := (hb7.alloc hb7.size _).trans (hx.mono (by have := hb7.size; simp; omega))
    clear hz hx hu7 hb7
    have hk' : (chkU us != 0) = true := by simpa using hk
    have hee : (chkU us == chkU us) = true := by simp
    clear hk HK
    generalize chkU us = ck at *
    go_wp2
    go_ret
    exact ⟨sl_bool (by simp), hb8⟩
end Go.Proofs.Ytjcbnanajelpjaa
