/- Contracts of admit.Share, Fits, Demand, ringref1.Share and ringlaw1.uses. -/
import Derived.Test.YtjcbnanajelpjaaAdC
namespace Go.Proofs.Ytjcbnanajelpjaa
open Go.RowKit
set_option maxHeartbeats 400000
set_option linter.unusedVariables false
set_option linter.unusedSimpArgs false
/-- What the uses come to, in parts of den. -/
def shF (den : Nat) (m : Nat) (u : Us) : Nat := m + den / u.p.toNat * u.c.toNat
def shN (den : Nat) (us : List Us) : Nat := us.foldl (shF den) 0
theorem us_take {us : List Us} {k : Nat} (hk : k < us.length) {f : Nat → Us → Nat} {z : Nat} : (us.take (k + 1)).foldl f z = f ((us.take k).foldl f z) (us.getD k .zero) := by
  rw [List.take_succ_eq_append_getElem hk, List.foldl_append]
  simp [List.getD, List.getElem?_eq_getElem hk]
theorem us_all {us : List Us} {n : Nat} (h : us.length = n) {f : Nat → Us → Nat} {z : Nat} : (us.take n).foldl f z = us.foldl f z := by
  rw [List.take_of_length_le (by omega)]
theorem sh_le (den : Nat) : ∀ (us : List Us) (m : Nat), (∀ u ∈ us, 1 ≤ u.p ∧ u.p ≤ 30 ∧ 1 ≤ u.c ∧ u.c ≤ u.p) → us.foldl (shF den) m ≤ m + us.length * den
  | [], m, _ => by simp
  | u :: us, m, h => by
    have h1 := h u (by simp)
    have := sh_le den us (shF den m u) (fun x hx => h x (by simp [hx]))
    have hd : den / u.p.toNat * u.c.toNat ≤ den := Nat.le_trans (Nat.mul_le_mul_left _ (by omega : u.c.toNat ≤ u.p.toNat)) (Nat.div_mul_le_self _ _)
    simp only [List.foldl_cons, List.length_cons, Nat.add_mul]
    have e : shF den m u = m + den / u.p.toNat * u.c.toNat := rfl
    omega
theorem sh_take_le {us : List Us} (h : chkU us = 0) {den : Nat} (hd : den ≤ 2329089562800) (k : Nat) : (us.take k).foldl (shF den) 0 ≤ 37265433004800 := by
  have h1 := chk_ok h
  have h2 := sh_le den (us.take k) 0 (fun u hu => h1.2 u (List.mem_of_mem_take hu))
  have h3 : (us.take k).length * den ≤ 16 * 2329089562800 := Nat.mul_le_mul (by rw [List.length_take]; omega) hd
  omega
def ThreePost (w : World) (x y z : Int) (e : Ending) (w' : World) : Prop := e = .returned (.tuple #[.int .i64 x, .int .i64 y, .int .i64 z]) ∧ Below w.heap.size w w'
def denOf (us : List Us) : Nat := roundP (ksOf us)
def numOf (us : List Us) : Nat := shN (denOf us) us
def lowN (us : List Us) : Nat := numOf us / Nat.gcd (numOf us) (denOf us)
def lowD (us : List Us) : Nat := denOf us / Nat.gcd (numOf us) (denOf us)
theorem den_big {us : List Us} (h : chkU us = 0) : 1 ≤ denOf us ∧ denOf us ≤ 2329089562800 := dvd_big (round_pos _ (ks_ok h))
theorem num_big {us : List Us} (h : chkU us = 0) : numOf us ≤ 37265433004800 := by
  have := sh_take_le h (den_big h).2 us.length
  rwa [List.take_length] at this
theorem share_bad (A : Option Addr) (n c : Nat) (us : List Us) (w : World) (B : Nat) (h : RU w B A n us) (hB : B ≤ w.heap.size) (hn : n ≤ 9223372036854775807) (hk : chkU us ≠ 0) : Calls Try.prog 31 #[.slice A n c] w (ThreePost w 0 0 (chkU us)) := by
  have hk' : (chkU us != 0) = true := by simpa using hk
  have HK := Lib.hid hk
  clear hk
  go_enter Try.func31, Try.ntmps31
  go_wp2_with (go_at_call 30; refine (round_bad A n c us _ B h hB hn HK.out).mono ?_; rintro e w1 ⟨rfl, hb1⟩)
  go_ret3
  exact ⟨rfl, hb1⟩
theorem sh_w64 {den m : Nat} {kc kp : Nat} (hd : den ≤ 2329089562800) (hm : m ≤ 37265433004800) (h1 : 1 ≤ kp) (h4 : kc ≤ kp) : Value.int IntKind.i64 (wrap64 ((m : Int) + wrap64 (wrap64 ((den : Int) / (kp : Int)) * kc))) = .int .i64 (shF den m ⟨kc, kp⟩ : Nat) := by
  have e1 : (den : Int) / (kp : Int) = ((den / kp : Nat) : Int) := by simp
  have hle : den / kp ≤ den := Nat.div_le_self _ _
  have hle2 : den / kp * kc ≤ den := Nat.le_trans (Nat.mul_le_mul_left _ h4) (Nat.div_mul_le_self _ _)
  rw [e1, w64n _ (by omega), ← Int.natCast_mul, w64n _ (by omega), ← Int.natCast_add, w64n _ (by omega)]
  rfl
theorem sh_ret {num den g lon lod : Nat} (hn : num ≤ 9223372036854775807) (hd : den ≤ 9223372036854775807) (h1 : num / g = lon) (h2 : den / g = lod) :
    Ending.returned (.tuple #[.int .i64 (wrap64 ((num : Int) / (g : Int))), .int .i64 (wrap64 ((den : Int) / (g : Int))), .int .i64 0]) = .returned (.tuple #[.int .i64 lon, .int .i64 lod, .int .i64 0]) := by
  subst h1; subst h2
  have e1 := Nat.div_le_self num g
  have e2 := Nat.div_le_self den g
  rw [← Int.natCast_ediv, ← Int.natCast_ediv, w64n _ (by omega), w64n _ (by omega)]
set_option maxRecDepth 100000 in
theorem share_ok (A : Option Addr) (n c : Nat) (us : List Us) (w : World) (B : Nat) (h : RU w B A n us) (hB : B ≤ w.heap.size) (hn : n ≤ 9223372036854775807) (hk : chkU us = 0) : Calls Try.prog 31 #[.slice A n c] w (ThreePost w (lowN us : Nat) (lowD us : Nat) 0) := by
  have HL := Lib.hid h.len
  have HK := Lib.hid hk
  have hden := den_big hk
  have hnum := num_big hk
  have HD : Hid (roundP (ksOf us) = denOf us) := Lib.hid rfl
  have HNU : Hid (us.foldl (shF (denOf us)) 0 = numOf us) := Lib.hid rfl
  have HLO : Hid (numOf us / Nat.gcd (numOf us) (denOf us) = lowN us ∧ denOf us / Nat.gcd (numOf us) (denOf us) = lowD us) := Lib.hid ⟨rfl, rfl⟩
  have HSL := Lib.hid (fun k => sh_take_le hk hden.2 k)
  clear hk
  go_enter Try.func31, Try.ntmps31
  go_wp2_with fail
  refine (round_ok A n c us _ B h hB hn HK.out).mono ?_
  rintro e w1 ⟨rfl, hb1⟩
  rw [HD.out]
  generalize denOf us = den at *
  generalize numOf us = num at *
  generalize lowN us = lon at *
  generalize lowD us = lod at *
  go_wp2
  go_loopw [7, 21] (fun nn i wr => ∃ k : Nat, k ≤ n ∧ i = .int .i64 k ∧ nn = .int .i64 ((us.take k).foldl (shF den) 0 : Nat) ∧ Below w.heap.size w wr) (fun _ i _ => n - (intOf i).toNat)
  case atStart => exact ⟨0, by omega, rfl, rfl, hb1⟩
  case round =>
    obtain ⟨k, hk, rfl, rfl, hbw⟩ := hrel
    have hm := HSL.out k
    have HALL := Lib.hid (us_all (us := us) HL.out (f := shF den) (z := 0))
    by_cases hlt : k < n
    · obtain ⟨b, o, rfl, hb, hme, c0, c1⟩ := (h.below' hbw hB).at_ hlt
      have HS := Lib.hid (us_take (us := us) (k := k) (by rw [HL.out]; exact hlt) (f := shF den) (z := 0))
      obtain ⟨kc, kp, hu, h1, h2, h3, h4⟩ := us_nat HK.out hme
      have HU := Lib.hid hu
      clear hme hu
      rw [HU.out] at c0 c1 HS
      dsimp only at c0 c1
      generalize (us.take k).foldl (shF den) 0 = m at *
      go_wp2
      go_quiet (fail)
      go_wp2
      go_roundw
      case rel => exact ⟨k + 1, by omega, by go_num, by rw [HS.out]; exact sh_w64 hden.2 hm h1 h4, sl_below_drewN (hbw.alloc hbw.size _) _⟩
      case measure => simp [intOf]; omega
    · obtain rfl : k = n := by omega
      rw [HALL.out, HNU.out] at *
      have hg0 : 0 < Nat.gcd num den := Nat.gcd_pos_of_pos_right _ (by omega)
      have hg1 : Nat.gcd num den ≤ den := Nat.le_of_dvd (by omega) (Nat.gcd_dvd_right _ _)
      go_wp2_with fail
      refine (gcd_any num den (by omega) (by omega) _).mono ?_
      rintro e w2 ⟨rfl, nq, rfl⟩
      generalize Nat.gcd num den = g at *
      have hq1 : num / g ≤ num := Nat.div_le_self _ _
      have hq2 : den / g ≤ den := Nat.div_le_self _ _
      have hL1 := Lib.hid HLO.out.1
      have hL2 := Lib.hid HLO.out.2
      go_wp2
      go_quiet (fail)
      go_wp2
      go_ret3
      exact ⟨sh_ret (by omega) (by omega) hL1.out hL2.out, sl_below_drewN (sl_below_drewN hbw _) _⟩
theorem den_dvd {us : List Us} {u : Us} (hu : u ∈ us) : u.p.toNat ∣ denOf us := dvd_round _ (List.mem_map.2 ⟨u, hu, rfl⟩)
theorem shR_val {den m : Nat} {kc kp : Nat} (h1 : 1 ≤ kp) (hd : kp ∣ den) : Value.int IntKind.i64 ((m : Int) + (den : Int) * kc / kp) = .int .i64 (shF den m ⟨kc, kp⟩ : Nat) := by
  obtain ⟨q, rfl⟩ := hd
  congr 1
  show _ = ((m + kp * q / kp * kc : Nat) : Int)
  rw [Nat.mul_div_cancel_left _ (by omega)]
  have : ((kp * q : Nat) : Int) * (kc : Int) / (kp : Int) = ((q * kc : Nat) : Int) := by
    rw [show ((kp * q : Nat) : Int) * (kc : Int) = (kp : Int) * ((q * kc : Nat) : Int) by push_cast; rw [Int.mul_assoc]]
    exact Int.mul_ediv_cancel_left _ (by omega)
  rw [this]; simp
theorem mod_is {a p : Nat} (h : a % p = 0) : ((a : Int) % (p : Int) == 0) = true := by
  rw [← Int.natCast_emod, h]; rfl
theorem mod_not {a p : Nat} (h : ¬ a % p = 0) : ((a : Int) % (p : Int) == 0) = false := by
  rw [← Int.natCast_emod]
  have : ¬ ((a % p : Nat) : Int) = 0 := by omega
  simpa using this
def redsTo (us : List Us) (j : Nat) : Nat × Nat := reds (adPrimes.take j) (numOf us, denOf us)
theorem redsTo_succ (us : List Us) {j : Nat} (h : j < 10) : redsTo us (j + 1) = redP (primeAt j) (redsTo us j) := by
  have h' : j < adPrimes.length := h
  unfold redsTo reds
  rw [List.take_succ_eq_append_getElem h', List.foldl_append]
  simp [primeAt, List.getD, List.getElem?_eq_getElem h']
theorem red_le (p : Nat) : ∀ (f : Nat) (x : Nat × Nat), (red p f x).1 ≤ x.1 ∧ (red p f x).2 ≤ x.2
  | 0, x => ⟨Nat.le_refl _, Nat.le_refl _⟩
  | f + 1, x => by
    unfold red
    split
    · have := red_le p f (x.1 / p, x.2 / p)
      exact ⟨Nat.le_trans this.1 (Nat.div_le_self _ _), Nat.le_trans this.2 (Nat.div_le_self _ _)⟩
    · exact ⟨Nat.le_refl _, Nat.le_refl _⟩
theorem reds_le : ∀ (ps : List Nat) (x : Nat × Nat), (reds ps x).1 ≤ x.1 ∧ (reds ps x).2 ≤ x.2
  | [], x => ⟨Nat.le_refl _, Nat.le_refl _⟩
  | p :: ps, x => by
    have h1 := red_le p x.1 x
    have h2 := reds_le ps (redP p x)
    exact ⟨Nat.le_trans h2.1 h1.1, Nat.le_trans h2.2 h1.2⟩
theorem reds_zero : ∀ (ps : List Nat) (r : Nat), reds ps (0, r) = (0, r)
  | [], r => rfl
  | p :: ps, r => by
    show reds ps (redP p (0, r)) = _
    exact reds_zero ps r
theorem sh_mono (d : Nat) : ∀ (us : List Us) (m : Nat), m ≤ us.foldl (shF d) m
  | [], m => Nat.le_refl _
  | v :: vs, m => Nat.le_trans (Nat.le_add_right _ _) (sh_mono d vs (shF d m v))
theorem num_zero {us : List Us} (h : chkU us = 0) (h0 : numOf us = 0) : denOf us = 1 := by
  cases us with
  | nil => rfl
  | cons u us =>
    exfalso
    have h1 := (chk_ok h).2 u (by simp)
    have hd := den_dvd (us := u :: us) (u := u) (by simp)
    have hp := den_big h
    have hq : 1 ≤ denOf (u :: us) / u.p.toNat := Nat.div_pos (Nat.le_of_dvd (by omega) hd) (by omega)
    have h2 := sh_mono (denOf (u :: us)) us (shF (denOf (u :: us)) 0 u)
    have h3 : numOf (u :: us) = us.foldl (shF (denOf (u :: us))) (shF (denOf (u :: us)) 0 u) := rfl
    have h4 : 1 ≤ denOf (u :: us) / u.p.toNat * u.c.toNat := Nat.mul_pos hq (by omega)
    have h5 : shF (denOf (u :: us)) 0 u = 0 + denOf (u :: us) / u.p.toNat * u.c.toNat := rfl
    omega
theorem redsTo_all {us : List Us} (h : chkU us = 0) : redsTo us 10 = (lowN us, lowD us) := by
  have e : redsTo us 10 = reds adPrimes (numOf us, denOf us) := rfl
  rw [e]
  rcases Nat.eq_zero_or_pos (numOf us) with h0 | h0
  · rw [h0, reds_zero]
    unfold lowN lowD
    rw [h0, num_zero h h0]; rfl
  · exact share_eq (ksOf us) (ks_ok h) _ h0
theorem low_zero {us : List Us} (h : chkU us = 0) (h0 : lowN us = 0) : lowD us = 1 := by
  have hp := den_big h
  have hg0 : 0 < Nat.gcd (numOf us) (denOf us) := Nat.gcd_pos_of_pos_right _ (by omega)
  have hd := Nat.gcd_dvd_left (numOf us) (denOf us)
  have e : numOf us = 0 := by
    rcases Nat.eq_zero_or_pos (numOf us) with h1 | h1
    · exact h1
    · have : 0 < lowN us := Nat.div_pos (Nat.le_of_dvd h1 hd) hg0
      omega
  unfold lowD
  rw [e, num_zero h e]; rfl
set_option maxRecDepth 100000 in
theorem shareR_ok (A : Option Addr) (n c : Nat) (us : List Us) (w : World) (B : Nat) (h : RU w B A n us) (hB : B ≤ w.heap.size) (hn : n ≤ 9223372036854775807) (hk : chkU us = 0) : Calls Try.prog 36 #[.slice A n c] w (TwoPost w (lowN us : Nat) (lowD us : Nat)) := by
  have HL := Lib.hid h.len
  have HK := Lib.hid hk
  have hden := den_big hk
  have hnum := num_big hk
  have HD : Hid (roundP (ksOf us) = denOf us) := Lib.hid rfl
  have HNU : Hid (us.foldl (shF (denOf us)) 0 = numOf us) := Lib.hid rfl
  have HSL := Lib.hid (fun k => sh_take_le hk hden.2 k)
  have HDV : Hid (∀ u ∈ us, u.p.toNat ∣ denOf us) := Lib.hid (fun u hu => den_dvd hu)
  have HR0 : Hid (redsTo us 0 = (numOf us, denOf us)) := Lib.hid rfl
  have HRA := Lib.hid (redsTo_all hk)
  have HRL : Hid (∀ j, (redsTo us j).1 ≤ numOf us ∧ (redsTo us j).2 ≤ denOf us) := Lib.hid (fun j => reds_le _ _)
  have HLZ := Lib.hid (low_zero hk)
  clear hk
  go_enter Try.func36, Try.ntmps36
  go_wp2_with fail
  refine (roundR_ok A n c us _ B h hB hn HK.out).mono ?_
  rintro e w1 ⟨rfl, hb1⟩
  rw [HD.out]
  generalize denOf us = den at *
  generalize numOf us = num at *
  generalize lowN us = lon at *
  generalize lowD us = lod at *
  go_wp2
  go_loopw [5, 14] (fun nn i wr => ∃ k : Nat, k ≤ n ∧ i = .int .i64 k ∧ nn = .int .i64 ((us.take k).foldl (shF den) 0 : Nat) ∧ Below w.heap.size w wr) (fun _ i _ => n - (intOf i).toNat)
  case atStart => exact ⟨0, by omega, rfl, rfl, hb1⟩
  case round =>
    obtain ⟨k, hk, rfl, rfl, hbw⟩ := hrel
    have hm := HSL.out k
    have HALL := Lib.hid (us_all (us := us) HL.out (f := shF den) (z := 0))
    by_cases hlt : k < n
    · obtain ⟨b, o, rfl, hb, hme, c0, c1⟩ := (h.below' hbw hB).at_ hlt
      have HS := Lib.hid (us_take (us := us) (k := k) (by rw [HL.out]; exact hlt) (f := shF den) (z := 0))
      have HDU := Lib.hid (HDV.out _ hme)
      obtain ⟨kc, kp, hu, h1, h2, h3, h4⟩ := us_nat HK.out hme
      have HU := Lib.hid hu
      clear hme hu
      rw [HU.out] at c0 c1 HS HDU
      dsimp only [Int.toNat_natCast] at c0 c1 HDU
      generalize (us.take k).foldl (shF den) 0 = m at *
      have hx0 : 0 ≤ (den : Int) * (kc : Int) := Int.mul_nonneg (by omega) (by omega)
      have hx1 : (den : Int) * (kc : Int) ≤ 69872686884000 := by
        have : den * kc ≤ 2329089562800 * 30 := Nat.mul_le_mul hden.2 (by omega)
        rw [← Int.natCast_mul]; omega
      have hx2 : 0 ≤ (den : Int) * (kc : Int) / kp := Int.ediv_nonneg hx0 (by omega)
      have hx3 : (den : Int) * (kc : Int) / kp ≤ 69872686884000 := Int.le_trans (Int.ediv_le_self _ hx0) hx1
      go_wp2
      go_roundw
      case rel => exact ⟨k + 1, by omega, by go_num, by rw [HS.out]; exact shR_val h1 HDU.out, hbw.alloc hbw.size _⟩
      case measure => simp [intOf]; omega
    · obtain rfl : k = n := by omega
      rw [HALL.out, HNU.out] at *
      go_wp2
      obtain ⟨wo, rfl⟩ : ∃ wo : World, wo = wr := ⟨_, rfl⟩
      have hsz := hbw.size
      clear HALL hm
      go_loopw [5, 4, 30] (fun nn rr i wr => ∃ j : Nat, j ≤ 10 ∧ i = .int .i64 j ∧ nn = .int .i64 ((redsTo us j).1 : Nat) ∧ rr = .int .i64 ((redsTo us j).2 : Nat) ∧ Blk wr wo.heap.size primesB 3 ∧ Below w.heap.size w wr) (fun _ _ i _ => 10 - (intOf i).toNat)
      case atStart => exact ⟨0, by omega, rfl, by rw [HR0.out], by rw [HR0.out], Blk.new _ _ _, hbw.alloc hbw.size _⟩
      case round =>
        obtain ⟨j, hj, rfl, rfl, rfl, hblk, hbr⟩ := hrel
        have hrl := HRL.out j
        by_cases hj10 : j < 10
        · have hcp := primesB_at hblk hj10
          have hpp := primeAt_big hj10
          have HN := Lib.hid (redsTo_succ us hj10)
          generalize primeAt j = p at *
          generalize redsTo us j = x at *
          obtain ⟨x1, x2⟩ := x
          dsimp only at hrl
          have hj10' : (j : Int) < 10 := by omega
          go_wp2
          obtain ⟨wi, rfl⟩ : ∃ wi : World, wi = wr := ⟨_, rfl⟩
          go_loopw [5, 4] (fun nn rr wr => ∃ a b : Nat, nn = .int .i64 a ∧ rr = .int .i64 b ∧ Hid (redP p (a, b) = redP p (x1, x2)) ∧ a ≤ num ∧ b ≤ den ∧ Blk wr wo.heap.size primesB 3 ∧ Below w.heap.size w wr) (fun nn _ _ => (intOf nn).toNat)
          case atStart => exact ⟨x1, x2, rfl, rfl, Lib.hid rfl, hrl.1, hrl.2, hblk, hbr⟩
          case round =>
            clear hblk hbr hcp
            obtain ⟨a, b, rfl, rfl, hr, ha, hb, hblk, hbr⟩ := hrel
            by_cases hc : 0 < a ∧ a % p = 0 ∧ b % p = 0
            · have hst := Lib.hid (redP_step (p := p) hpp.1 (x := (a, b)) hc)
              obtain ⟨h1, h2, h3⟩ := hc
              have d2 := mod_is h2
              have d3 := mod_is h3
              have hlt : a / p < a := Nat.div_lt_self h1 (by omega)
              have hle : b / p ≤ b := Nat.div_le_self _ _
              clear h2 h3
              go_wp2
              go_quiet (fail)
              go_wp2
              go_roundw
              case rel => exact ⟨a / p, b / p, by rw [← Int.natCast_ediv, w64n _ (by omega)], by rw [← Int.natCast_ediv, w64n _ (by omega)], Lib.hid (by rw [← hr.out, hst.out]), by omega, by omega, hblk, sl_below_drewN hbr _⟩
              case measure => rw [← Int.natCast_ediv, w64n _ (by omega)]; simp [intOf]; omega
            · have hst := Lib.hid (redP_stop (p := p) (x := (a, b)) hc)
              have e : Hid (redsTo us (j + 1) = (a, b)) := Lib.hid (by rw [HN.out, ← hr.out, hst.out])
              by_cases h1 : 0 < a
              · by_cases h2 : a % p = 0
                · have d2 := mod_is h2
                  have d3 := mod_not (fun h3 => hc ⟨h1, h2, h3⟩)
                  clear h2 hc
                  go_wp2
                  go_roundw
                  case rel => exact ⟨j + 1, by omega, by go_num, by rw [e.out], by rw [e.out], hblk, hbr⟩
                  case measure => simp [intOf]; omega
                · have d2 := mod_not h2
                  clear h2 hc
                  go_wp2
                  go_roundw
                  case rel => exact ⟨j + 1, by omega, by go_num, by rw [e.out], by rw [e.out], hblk, hbr⟩
                  case measure => simp [intOf]; omega
              · clear hc
                go_wp2
                go_roundw
                case rel => exact ⟨j + 1, by omega, by go_num, by rw [e.out], by rw [e.out], hblk, hbr⟩
                case measure => simp [intOf]; omega
        · obtain rfl : j = 10 := by omega
          rw [HRA.out] at *
          by_cases h0 : lon = 0
          · have e := Lib.hid (HLZ.out h0)
            subst h0
            go_wp2
            go_ret2
            rw [e.out]
            exact ⟨rfl, hbr⟩
          · have d0 : ((lon : Int) == 0) = false := by simp; omega
            go_wp2
            go_ret2
            exact ⟨rfl, hbr⟩
def FitPost (w : World) (x : Bool) (y : Int) (e : Ending) (w' : World) : Prop := e = .returned (.tuple #[.bool x, .int .i64 y]) ∧ Below w.heap.size w w'
theorem fits_bad (A : Option Addr) (n c : Nat) (us : List Us) (q : Int) (w : World) (B : Nat) (h : RU w B A n us) (hB : B ≤ w.heap.size) (hn : n ≤ 9223372036854775807) (hk : chkU us ≠ 0) : Calls Try.prog 32 #[.slice A n c, .int .i64 q] w (FitPost w false (chkU us)) := by
  have hk' : (chkU us != 0) = true := by simpa using hk
  have HK := Lib.hid hk
  clear hk
  go_enter Try.func32, Try.ntmps32
  go_wp2_with fail
  refine (share_bad A n c us _ B h hB hn HK.out).mono ?_
  rintro e w1 ⟨rfl, hb1⟩
  go_wp2
  go_ret2
  exact ⟨rfl, hb1⟩
theorem fits_out (A : Option Addr) (n c : Nat) (us : List Us) (q : Int) (w : World) (B : Nat) (h : RU w B A n us) (hB : B ≤ w.heap.size) (hn : n ≤ 9223372036854775807) (hk : chkU us = 0) (hq : q < 1 ∨ 4 < q) : Calls Try.prog 32 #[.slice A n c, .int .i64 q] w (FitPost w false 1) := by
  have HK := Lib.hid hk
  clear hk
  generalize hlo : lowN us = lon at *
  generalize hld : lowD us = lod at *
  have HLO := Lib.hid hlo
  have HLD := Lib.hid hld
  clear hlo hld
  go_enter Try.func32, Try.ntmps32
  go_wp2_with fail
  refine (share_ok A n c us _ B h hB hn HK.out).mono ?_
  rintro e w1 ⟨rfl, hb1⟩
  rw [HLO.out, HLD.out]
  by_cases h1 : q < 1
  · go_wp2
    go_ret2
    exact ⟨rfl, hb1⟩
  · have h2 : 4 < q := by omega
    go_wp2
    go_ret2
    exact ⟨rfl, hb1⟩
theorem fits_in (A : Option Addr) (n c : Nat) (us : List Us) (q : Int) (w : World) (B : Nat) (h : RU w B A n us) (hB : B ≤ w.heap.size) (hn : n ≤ 9223372036854775807) (hk : chkU us = 0) (hq : 1 ≤ q ∧ q ≤ 4) : Calls Try.prog 32 #[.slice A n c, .int .i64 q] w (FitPost w (decide ((lowN us : Int) ≤ q * (lowD us : Nat))) 0) := by
  have HK := Lib.hid hk
  have hden := den_big hk
  have hlod : lowD us ≤ denOf us := Nat.div_le_self _ _
  clear hk
  generalize hlo : lowN us = lon at *
  generalize hld : lowD us = lod at *
  generalize denOf us = den at *
  have HLO := Lib.hid hlo
  have HLD := Lib.hid hld
  clear hlo hld
  have h1 : 0 ≤ q * (lod : Int) := Int.mul_nonneg (by omega) (by omega)
  have h2 : q * (lod : Int) ≤ 9316358251200 := by
    have : q * (lod : Int) ≤ 4 * 2329089562800 := Int.mul_le_mul hq.2 (by omega) (by omega) (by omega)
    omega
  go_enter Try.func32, Try.ntmps32
  go_wp2_with fail
  refine (share_ok A n c us _ B h hB hn HK.out).mono ?_
  rintro e w1 ⟨rfl, hb1⟩
  rw [HLO.out, HLD.out]
  go_wp2
  go_ret2
  exact ⟨rfl, hb1⟩
def demF (t : Int) (m : Int) (u : Us) : Int := m + t / u.p * u.c
theorem usi_take {us : List Us} {k : Nat} (hk : k < us.length) {f : Int → Us → Int} {z : Int} : (us.take (k + 1)).foldl f z = f ((us.take k).foldl f z) (us.getD k .zero) := by
  rw [List.take_succ_eq_append_getElem hk, List.foldl_append]
  simp [List.getD, List.getElem?_eq_getElem hk]
theorem usi_all {us : List Us} {n : Nat} (h : us.length = n) {f : Int → Us → Int} {z : Int} : (us.take n).foldl f z = us.foldl f z := by
  rw [List.take_of_length_le (by omega)]
theorem dem_one {t : Int} {u : Us} (ht : 0 ≤ t ∧ t ≤ 100000) (h : 1 ≤ u.p ∧ u.p ≤ 30 ∧ 1 ≤ u.c ∧ u.c ≤ u.p) : 0 ≤ t / u.p ∧ t / u.p ≤ 100000 ∧ 0 ≤ t / u.p * u.c ∧ t / u.p * u.c ≤ 100000 := by
  have h1 : 0 ≤ t / u.p := Int.ediv_nonneg ht.1 (by omega)
  have h2 : t / u.p * u.p ≤ t := Int.ediv_mul_le t (by omega)
  have h3 : t / u.p * u.c ≤ t / u.p * u.p := Int.mul_le_mul_of_nonneg_left h.2.2.2 h1
  have h4 : 0 ≤ t / u.p * u.c := Int.mul_nonneg h1 (by omega)
  have h5 : t / u.p ≤ t := Int.ediv_le_self _ ht.1
  omega
theorem dem_le (t : Int) (ht : 0 ≤ t ∧ t ≤ 100000) : ∀ (us : List Us) (m : Int), (∀ u ∈ us, 1 ≤ u.p ∧ u.p ≤ 30 ∧ 1 ≤ u.c ∧ u.c ≤ u.p) → 0 ≤ m → 0 ≤ us.foldl (demF t) m ∧ us.foldl (demF t) m ≤ m + us.length * 100000
  | [], m, _, hm => by simp [hm]
  | u :: us, m, h, hm => by
    have h1 := dem_one ht (h u (by simp))
    have e : demF t m u = m + t / u.p * u.c := rfl
    have := dem_le t ht us (demF t m u) (fun x hx => h x (by simp [hx])) (by omega)
    simp only [List.foldl_cons, List.length_cons]
    omega
theorem dem_take_le {us : List Us} (h : chkU us = 0) {t : Int} (ht : 0 ≤ t ∧ t ≤ 100000) (k : Nat) : 0 ≤ (us.take k).foldl (demF t) 0 ∧ (us.take k).foldl (demF t) 0 ≤ 1600000 := by
  have h1 := chk_ok h
  have h2 := dem_le t ht (us.take k) 0 (fun u hu => h1.2 u (List.mem_of_mem_take hu)) (by omega)
  have h3 : (us.take k).length ≤ 16 := by rw [List.length_take]; omega
  omega
theorem dem_w64 {t m : Int} {u : Us} (ht : 0 ≤ t ∧ t ≤ 100000) (hm : 0 ≤ m ∧ m ≤ 1600000) (h : 1 ≤ u.p ∧ u.p ≤ 30 ∧ 1 ≤ u.c ∧ u.c ≤ u.p) : wrap64 (m + wrap64 (t / u.p * u.c)) = demF t m u := by
  have h1 := dem_one ht h
  rw [IntWalk.wrap64_in (t / u.p * u.c) (by omega), IntWalk.wrap64_in _ (by omega)]; rfl
theorem demand_bad (A : Option Addr) (n c : Nat) (us : List Us) (t : Int) (w : World) (B : Nat) (h : RU w B A n us) (hB : B ≤ w.heap.size) (hn : n ≤ 9223372036854775807) (hk : chkU us ≠ 0) : Calls Try.prog 33 #[.slice A n c, .int .i64 t] w (TwoPost w 0 (chkU us)) := by
  have hk' : (chkU us != 0) = true := by simpa using hk
  have HK := Lib.hid hk
  clear hk
  go_enter Try.func33, Try.ntmps33
  go_wp2_with (go_at_call 35; refine (chkU_any A n c us _ B h hB hn).mono ?_; rintro e w1 ⟨rfl, hb1⟩)
  go_ret2
  exact ⟨rfl, hb1⟩
theorem demand_out (A : Option Addr) (n c : Nat) (us : List Us) (t : Int) (w : World) (B : Nat) (h : RU w B A n us) (hB : B ≤ w.heap.size) (hn : n ≤ 9223372036854775807) (hk : chkU us = 0) (ht : t < 0 ∨ 100000 < t) : Calls Try.prog 33 #[.slice A n c, .int .i64 t] w (TwoPost w 0 1) := by
  have HK := Lib.hid hk
  clear hk
  go_enter Try.func33, Try.ntmps33
  go_wp2_with fail
  refine (chkU_any A n c us _ B h hB hn).mono ?_
  rintro e w1 ⟨rfl, hb1⟩
  rw [HK.out]
  by_cases h1 : t < 0
  · go_wp2
    go_ret2
    exact ⟨rfl, hb1⟩
  · have h2 : 100000 < t := by omega
    go_wp2
    go_ret2
    exact ⟨rfl, hb1⟩
set_option maxRecDepth 100000 in
theorem demand_in (A : Option Addr) (n c : Nat) (us : List Us) (t : Int) (w : World) (B : Nat) (h : RU w B A n us) (hB : B ≤ w.heap.size) (hn : n ≤ 9223372036854775807) (hk : chkU us = 0) (ht : 0 ≤ t ∧ t ≤ 100000) : Calls Try.prog 33 #[.slice A n c, .int .i64 t] w (TwoPost w (us.foldl (demF t) 0) 0) := by
  have HL := Lib.hid h.len
  have HK := Lib.hid hk
  have HDL := Lib.hid (fun k => dem_take_le hk ht k)
  have HOK := Lib.hid (chk_ok hk).2
  clear hk
  go_enter Try.func33, Try.ntmps33
  go_wp2_with fail
  refine (chkU_any A n c us _ B h hB hn).mono ?_
  rintro e w1 ⟨rfl, hb1⟩
  rw [HK.out]
  go_wp2
  go_loopw [7, 23] (fun nn i wr => ∃ k : Nat, k ≤ n ∧ i = .int .i64 k ∧ nn = .int .i64 ((us.take k).foldl (demF t) 0) ∧ Below w.heap.size w wr) (fun _ i _ => n - (intOf i).toNat)
  case atStart => exact ⟨0, by omega, rfl, rfl, hb1⟩
  case round =>
    obtain ⟨k, hk, rfl, rfl, hbw⟩ := hrel
    have hm := HDL.out k
    have HALL := Lib.hid (usi_all (us := us) HL.out (f := demF t) (z := 0))
    by_cases hlt : k < n
    · obtain ⟨b, o, rfl, hb, hme, c0, c1⟩ := (h.below' hbw hB).at_ hlt
      have HS := Lib.hid (usi_take (us := us) (k := k) (by rw [HL.out]; exact hlt) (f := demF t) (z := 0))
      have hu := HOK.out _ hme
      clear hme
      generalize us.getD k .zero = u at *
      generalize (us.take k).foldl (demF t) 0 = m at *
      have HW := Lib.hid (dem_w64 ht hm hu)
      obtain ⟨uc, up⟩ := u
      dsimp only at hu HW c0 c1
      go_wp2
      go_quiet (fail)
      go_wp2
      go_roundw
      case rel => exact ⟨k + 1, by omega, by go_num, by rw [HS.out, ← HW.out], sl_below_drewN (hbw.alloc hbw.size _) _⟩
      case measure => simp [intOf]; omega
    · obtain rfl : k = n := by omega
      rw [HALL.out]
      go_wp2
      go_ret2
      exact ⟨rfl, hbw⟩
end Go.Proofs.Ytjcbnanajelpjaa
