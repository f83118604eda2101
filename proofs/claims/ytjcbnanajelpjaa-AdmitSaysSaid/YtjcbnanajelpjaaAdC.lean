/- Contracts of admit.Round and ringref1.Round. -/
import Derived.Test.YtjcbnanajelpjaaAdB
namespace Go.Proofs.Ytjcbnanajelpjaa
open Go.RowKit
set_option maxHeartbeats 400000
set_option linter.unusedVariables false
set_option linter.unusedSimpArgs false
def ksOf (us : List Us) : List Nat := us.map fun u => u.p.toNat
theorem ks_ok {us : List Us} (h : chkU us = 0) : Periods (ksOf us) := by
  intro k hk
  obtain ⟨u, hu, rfl⟩ := List.mem_map.1 hk
  have := (chk_ok h).2 u hu
  omega
theorem us_nat {us : List Us} (h : chkU us = 0) {u : Us} (hu : u ∈ us) : ∃ kc kp : Nat, u = ⟨kc, kp⟩ ∧ 1 ≤ kp ∧ kp ≤ 30 ∧ 1 ≤ kc ∧ kc ≤ kp := by
  obtain ⟨uc, up⟩ := u
  have := (chk_ok h).2 _ hu
  dsimp only at this
  refine ⟨uc.toNat, up.toNat, ?_, by omega, by omega, by omega, by omega⟩
  rw [Int.toNat_of_nonneg (by omega), Int.toNat_of_nonneg (by omega)]
theorem ks_take {us : List Us} {k : Nat} (hk : k < us.length) {f : Nat → Nat → Nat} {z : Nat} : ((ksOf us).take (k + 1)).foldl f z = f (((ksOf us).take k).foldl f z) (us.getD k .zero).p.toNat := by
  have hk' : k < (ksOf us).length := by simpa [ksOf] using hk
  rw [List.take_succ_eq_append_getElem hk', List.foldl_append]
  simp [ksOf, List.getD, List.getElem?_eq_getElem hk]
theorem ks_all {us : List Us} {n : Nat} (h : us.length = n) {f : Nat → Nat → Nat} {z : Nat} : ((ksOf us).take n).foldl f z = (ksOf us).foldl f z := by
  rw [List.take_of_length_le (by simp [ksOf]; omega)]
theorem periods_take {ks : List Nat} (h : Periods ks) (k : Nat) : Periods (ks.take k) := fun x hx => h x (List.mem_of_mem_take hx)
def TwoPost (w : World) (x y : Int) (e : Ending) (w' : World) : Prop := e = .returned (.tuple #[.int .i64 x, .int .i64 y]) ∧ Below w.heap.size w w'
theorem gcd_q (a b : Nat) (ha : a ≤ 9223372036854775807) (hb : b ≤ 9223372036854775807) (w : World) : Calls Try.prog 69 #[.int .i64 a, .int .i64 b] w fun e w' => e = .returned (.int .i64 (Nat.gcd a b : Nat)) ∧ ∃ n, w' = w.drewN n := gcd_any a b ha hb w
theorem w64n (x : Nat) (h : x ≤ 9223372036854775807) : wrap64 (x : Int) = x := IntWalk.wrap64_in _ (by omega)
theorem round_w64 {m kp : Nat} (h : m ≤ 2329089562800) (hr : roundG m kp ≤ 2329089562800) : Value.int IntKind.i64 (wrap64 (wrap64 ((m : Int) / ((Nat.gcd m kp : Nat) : Int)) * kp)) = .int .i64 (roundG m kp : Nat) := by
  have e1 : (m : Int) / ((Nat.gcd m kp : Nat) : Int) = ((m / Nat.gcd m kp : Nat) : Int) := by simp
  have hle : m / Nat.gcd m kp ≤ m := Nat.div_le_self _ _
  rw [e1, w64n _ (by omega)]
  have e2 : ((m / Nat.gcd m kp : Nat) : Int) * (kp : Int) = ((roundG m kp : Nat) : Int) := by simp [roundG]
  rw [e2, w64n _ (by omega)]
theorem round_bad (A : Option Addr) (n c : Nat) (us : List Us) (w : World) (B : Nat) (h : RU w B A n us) (hB : B ≤ w.heap.size) (hn : n ≤ 9223372036854775807) (hk : chkU us ≠ 0) : Calls Try.prog 30 #[.slice A n c] w (TwoPost w 0 (chkU us)) := by
  have hk' : (chkU us != 0) = true := by simpa using hk
  go_enter Try.func30, Try.ntmps30
  go_wp2_with (go_at_call 35; refine (chkU_any A n c us _ B h hB hn).mono ?_; rintro e w1 ⟨rfl, hb1⟩)
  go_ret2
  exact ⟨rfl, hb1⟩
theorem round_ok (A : Option Addr) (n c : Nat) (us : List Us) (w : World) (B : Nat) (h : RU w B A n us) (hB : B ≤ w.heap.size) (hn : n ≤ 9223372036854775807) (hk : chkU us = 0) : Calls Try.prog 30 #[.slice A n c] w (TwoPost w (roundP (ksOf us) : Nat) 0) := by
  have HL := Lib.hid h.len
  have HK := Lib.hid hk
  have HP := Lib.hid (ks_ok hk)
  clear hk
  go_enter Try.func30, Try.ntmps30
  go_wp2_with fail
  refine (chkU_any A n c us _ B h hB hn).mono ?_
  rintro e w1 ⟨rfl, hb1⟩
  rw [HK.out]
  go_wp2
  go_loopw [5, 15] (fun nn i wr => ∃ k : Nat, k ≤ n ∧ i = .int .i64 k ∧ nn = .int .i64 (((ksOf us).take k).foldl roundG 1 : Nat) ∧ Below w.heap.size w wr) (fun _ i _ => n - (intOf i).toNat)
  case atStart => exact ⟨0, by omega, rfl, rfl, hb1⟩
  case round =>
    obtain ⟨k, hk, rfl, rfl, hbw⟩ := hrel
    have hm := dvd_big (roundF_le _ 1 (periods_take HP.out k) (by decide))
    have HALL := Lib.hid (ks_all (us := us) HL.out (f := roundG) (z := 1))
    by_cases hlt : k < n
    · obtain ⟨b, o, rfl, hb, hme, c0, c1⟩ := (h.below' hbw hB).at_ hlt
      have HN := Lib.hid (ks_take (us := us) (k := k) (by rw [HL.out]; exact hlt) (f := roundG) (z := 1))
      have hm2 := Lib.hid (dvd_big (roundF_le _ 1 (periods_take HP.out (k + 1)) (by decide)))
      obtain ⟨kc, kp, hu, h1, h2, h3, h4⟩ := us_nat HK.out hme
      have HU := Lib.hid hu
      clear hme hu
      rw [HU.out] at c0 c1 HN
      dsimp only [Int.toNat_natCast] at c0 c1 HN
      generalize ((ksOf us).take k).foldl roundG 1 = m at *
      rw [HN.out] at hm2
      have hg1 : Nat.gcd m kp ≤ kp := Nat.le_of_dvd (by omega) (Nat.gcd_dvd_right _ _)
      have hg0 : 0 < Nat.gcd m kp := Nat.gcd_pos_of_pos_right _ (by omega)
      go_wp2
      go_quiet ((go_at_call 69; exact Calls.quiet_of (gcd_q m kp (by omega) (by omega) _)))
      go_wp2
      go_roundw
      case rel => exact ⟨k + 1, by omega, by go_num, by rw [HN.out]; exact round_w64 (by omega) (by have := hm2.out; omega), sl_below_drewN (hbw.alloc hbw.size _) _⟩
      case measure => simp [intOf]; omega
    · obtain rfl : k = n := by omega
      go_wp2
      go_ret2
      rw [HALL.out]
      exact ⟨rfl, hbw⟩
theorem max_val {p m kp q : Nat} (h : q = ppart p kp) : Value.int .i64 (if m < q then (q : Int) else (m : Int)) = .int .i64 (mostF p m kp : Nat) := by
  congr 1
  unfold mostF
  rw [← h]
  split <;> omega
/-- How far the parts have been taken out. -/
theorem part_step {p f k : Nat} (h : k % p = 0) : part p (f + 1) k = p * part p f (k / p) := by rw [part, if_pos h]
theorem part_stop {p f k : Nat} (h : ¬ k % p = 0) : part p (f + 1) k = 1 := by rw [part, if_neg h]
theorem part_le {p : Nat} (hp : 2 ≤ p) : ∀ (f k : Nat), 1 ≤ k → part p f k ≤ k
  | 0, k, h => h
  | f + 1, k, h => by
    unfold part
    split
    · rename_i hc
      have e : p * (k / p) = k := Nat.mul_div_cancel' (Nat.dvd_of_mod_eq_zero hc)
      have : 1 ≤ k / p := by
        rcases Nat.eq_zero_or_pos (k / p) with h0 | h0
        · rw [h0] at e; omega
        · exact h0
      have := part_le hp f (k / p) this
      calc p * part p f (k / p) ≤ p * (k / p) := Nat.mul_le_mul_left _ this
        _ = k := e
    · exact h
def primeAt (j : Nat) : Nat := adPrimes.getD j 1
theorem primeAt_mem {j : Nat} (h : j < 10) : primeAt j ∈ adPrimes := by
  have : ∀ j, j < 10 → primeAt j ∈ adPrimes := by decide
  exact this j h
theorem primeAt_big {j : Nat} (h : j < 10) : 2 ≤ primeAt j ∧ primeAt j ≤ 29 := by
  have : ∀ j, j < 10 → 2 ≤ primeAt j ∧ primeAt j ≤ 29 := by decide
  exact this j h
def prodTo (ks : List Nat) (j : Nat) : Nat := prodF (fun p => most p ks) (adPrimes.take j) 1
theorem prodF_snoc (f : Nat → Nat) : ∀ (ps : List Nat) (p n : Nat), prodF f (ps ++ [p]) n = prodF f ps n * f p
  | [], p, n => rfl
  | q :: ps, p, n => prodF_snoc f ps p (n * f q)
theorem prodTo_succ (ks : List Nat) {j : Nat} (h : j < 10) : prodTo ks (j + 1) = prodTo ks j * most (primeAt j) ks := by
  have h' : j < adPrimes.length := h
  unfold prodTo
  rw [List.take_succ_eq_append_getElem h', prodF_snoc]
  simp [primeAt, List.getD, List.getElem?_eq_getElem h']
theorem prodF_self (f : Nat → Nat) : ∀ (ps : List Nat) (n : Nat), n ∣ prodF f ps n
  | [], n => Nat.dvd_refl _
  | p :: ps, n => Nat.dvd_trans (Nat.dvd_mul_right n (f p)) (prodF_self f ps (n * f p))
theorem prodF_append (f : Nat → Nat) : ∀ (ps qs : List Nat) (n : Nat), prodF f (ps ++ qs) n = prodF f qs (prodF f ps n)
  | [], qs, n => rfl
  | p :: ps, qs, n => prodF_append f ps qs (n * f p)
theorem prodTo_dvd (ks : List Nat) (j : Nat) : prodTo ks j ∣ roundR ks := by
  unfold prodTo roundR
  have : adPrimes = adPrimes.take j ++ adPrimes.drop j := (List.take_append_drop j _).symm
  conv => rhs; rw [this, prodF_append]
  exact prodF_self _ _ _
theorem prodTo_big (ks : List Nat) (h : Periods ks) (j : Nat) : 1 ≤ prodTo ks j ∧ prodTo ks j ≤ 2329089562800 := dvd_big (Nat.dvd_trans (prodTo_dvd ks j) (by rw [← round_eq ks h]; exact round_pos ks h))
theorem most_le (p : Nat) (hp : 2 ≤ p) : ∀ (ks : List Nat) (m : Nat), Periods ks → m ≤ 30 → ks.foldl (mostF p) m ≤ 30
  | [], m, _, hm => hm
  | k :: ks, m, h, hm => by
    have h1 := h k (by simp)
    have h2 := part_le hp 6 k h1.1
    refine most_le p hp ks (mostF p m k) (fun x hx => h x (by simp [hx])) ?_
    show max m (part p 6 k) ≤ 30
    exact Nat.max_le.2 ⟨hm, by omega⟩
def primesB : Array Value := #[.int .i64 2, .int .i64 3, .int .i64 5, .int .i64 7, .int .i64 11, .int .i64 13, .int .i64 17, .int .i64 19, .int .i64 23, .int .i64 29]
theorem primesB_at {w : World} {g : Nat} (h : Blk w g primesB 3) {j : Nat} (hj : j < 10) : w.cell? ⟨g, j, none⟩ = some (.int .i64 (primeAt j : Nat)) := by
  rw [h.cell]
  have : ∀ j, j < 10 → primesB[j]? = some (.int .i64 (primeAt j : Nat)) := by
    intro j hj
    rcases (by omega : j = 0 ∨ j = 1 ∨ j = 2 ∨ j = 3 ∨ j = 4 ∨ j = 5 ∨ j = 6 ∨ j = 7 ∨ j = 8 ∨ j = 9) with rfl | rfl | rfl | rfl | rfl | rfl | rfl | rfl | rfl | rfl <;> rfl
  exact this j hj
set_option maxRecDepth 100000 in
theorem roundR_ok (A : Option Addr) (n c : Nat) (us : List Us) (w : World) (B : Nat) (h : RU w B A n us) (hB : B ≤ w.heap.size) (hn : n ≤ 9223372036854775807) (hk : chkU us = 0) : Calls Try.prog 37 #[.slice A n c] w (ChkPost w (roundP (ksOf us) : Nat)) := by
  have HL := Lib.hid h.len
  have HK := Lib.hid hk
  have HP := Lib.hid (ks_ok hk)
  clear hk
  go_enter Try.func37, Try.ntmps37
  go_wp2
  go_loopw [3, 13] (fun nn i wr => ∃ j : Nat, j ≤ 10 ∧ i = .int .i64 j ∧ nn = .int .i64 (prodTo (ksOf us) j : Nat) ∧ Blk wr w.heap.size primesB 3 ∧ Below w.heap.size w wr) (fun _ i _ => 10 - (intOf i).toNat)
  case atStart => exact ⟨0, by omega, rfl, rfl, Blk.new _ _ _, (Below.refl _ _).alloc (Nat.le_refl _) _⟩
  case round =>
    obtain ⟨j, hj, rfl, rfl, hblk, hbw⟩ := hrel
    have hpj := prodTo_big _ HP.out j
    by_cases hj10 : j < 10
    · have hcp := primesB_at hblk hj10
      have hpp := primeAt_big hj10
      have HN := Lib.hid (prodTo_succ (ksOf us) hj10)
      have hpn := Lib.hid (prodTo_big _ HP.out (j + 1))
      have hml := Lib.hid (fun k => most_le (primeAt j) hpp.1 ((ksOf us).take k) 1 (periods_take HP.out k) (by omega))
      have HALL := Lib.hid (ks_all (us := us) HL.out (f := mostF (primeAt j)) (z := 1))
      have HMO : Hid ((ksOf us).foldl (mostF (primeAt j)) 1 = most (primeAt j) (ksOf us)) := Lib.hid rfl
      generalize most (primeAt j) (ksOf us) = mo at *
      generalize primeAt j = p at *
      generalize prodTo (ksOf us) j = nj at *
      have hj10' : (j : Int) < 10 := by omega
      go_wp2
      obtain ⟨wo, rfl⟩ : ∃ wo : World, wo = wr := ⟨_, rfl⟩
      go_loopw [6, 19] (fun mm i wr => ∃ k : Nat, k ≤ n ∧ i = .int .i64 k ∧ mm = .int .i64 (((ksOf us).take k).foldl (mostF p) 1 : Nat) ∧ Blk wr w.heap.size primesB 3 ∧ Below w.heap.size w wr) (fun _ i _ => n - (intOf i).toNat)
      case atStart => exact ⟨0, by omega, rfl, rfl, hblk, hbw⟩
      case round =>
        clear hblk hbw hcp
        obtain ⟨k, hk, rfl, rfl, hblk, hbw⟩ := hrel
        have hmk := hml.out k
        by_cases hlt : k < n
        · obtain ⟨b, o, rfl, hb, hme, c0, c1⟩ := (h.below' hbw hB).at_ hlt
          have HS := Lib.hid (ks_take (us := us) (k := k) (by rw [HL.out]; exact hlt) (f := mostF p) (z := 1))
          obtain ⟨kc, kp, hu, h1, h2, h3, h4⟩ := us_nat HK.out hme
          have HU := Lib.hid hu
          clear hme hu
          rw [HU.out] at c0 c1 HS
          dsimp only [Int.toNat_natCast] at c0 c1 HS
          generalize ((ksOf us).take k).foldl (mostF p) 1 = m at *
          have hbn : Below w.heap.size w (wr.alloc (.cells #[.int .i64 kc, .int .i64 kp] 67)) := hbw.alloc hbw.size _
          have hblkn := hblk.alloc (.cells #[.int .i64 kc, .int .i64 kp] 67)
          clear hblk hbw
          go_wp2
          go_loop [9, 10] (fun q x => ∃ f k' q' : Nat, x = .int .i64 k' ∧ q = .int .i64 q' ∧ Hid (q' * part p f k' = ppart p kp) ∧ 1 ≤ k' ∧ k' ≤ 30 ∧ Hid (k' < 2 ^ f) ∧ 1 ≤ q' ∧ Hid (q' * k' ≤ 30)) (fun _ x => (intOf x).toNat)
          case atStart => exact ⟨6, kp, 1, rfl, rfl, Lib.hid (by rw [Nat.one_mul]; rfl), h1, h2, Lib.hid (by omega), by omega, Lib.hid (by omega)⟩
          case round =>
            obtain ⟨f, k', q', rfl, rfl, hq, hk1, hk2, hf, hq1, hqk⟩ := hrel
            cases f with
            | zero => have := hf.out; simp at this; omega
            | succ f =>
              have hq30 : q' ≤ 30 := Nat.le_trans (Nat.le_mul_of_pos_right q' (by omega)) hqk.out
              by_cases hmod : k' % p = 0
              · have e := Lib.hid (Nat.div_mul_cancel (Nat.dvd_of_mod_eq_zero hmod))
                have hd1 : 1 ≤ k' / p := by
                  rcases Nat.eq_zero_or_pos (k' / p) with h0 | h0
                  · have := e.out; rw [h0] at this; omega
                  · exact h0
                have hd2 : k' / p < k' := Nat.div_lt_self (by omega) (by omega)
                have hq' : Hid (q' * p * part p f (k' / p) = ppart p kp) := Lib.hid (by rw [← hq.out, part_step hmod, Nat.mul_assoc])
                have hqk' : Hid (q' * p * (k' / p) ≤ 30) := Lib.hid (by have := hqk.out; rw [Nat.mul_assoc, Nat.mul_comm p, e.out]; exact this)
                have hqp : q' * p ≤ 30 := Nat.le_trans (Nat.le_mul_of_pos_right _ (by omega)) hqk'.out
                have hf' : Hid (k' / p < 2 ^ f) := Lib.hid (by
                  have h1 := hf.out
                  rw [Nat.pow_succ] at h1
                  exact Nat.div_lt_of_lt_mul (Nat.lt_of_lt_of_le h1 (by rw [Nat.mul_comm]; exact Nat.mul_le_mul_right _ hpp.1)))
                have dm : ((k' : Int) % (p : Int) == 0) = true := by
                  rw [← Int.natCast_emod, hmod]; rfl
                have hcast : ((q' : Int) * (p : Int)) ≤ 30 := by exact_mod_cast hqp
                have hcast0 : 0 ≤ ((q' : Int) * (p : Int)) := Int.mul_nonneg (by omega) (by omega)
                clear hmod
                go_wp2
                go_round
                case rel => exact ⟨f, k' / p, q' * p, by go_num, by go_num, hq', hd1, by omega, hf', Nat.mul_pos (by omega) (by omega), hqk'⟩
                case measure => simp [intOf]; omega
              · have e := Lib.hid (part_stop (f := f) hmod)
                have hqe : Hid (q' = ppart p kp) := Lib.hid (by rw [← hq.out, e.out, Nat.mul_one])
                have dm : ((k' : Int) % (p : Int) == 0) = false := by
                  rw [← Int.natCast_emod]
                  have : ¬ ((k' % p : Nat) : Int) = 0 := by omega
                  simpa using this
                clear hmod
                go_wp2
                go_roundw
                case rel => exact ⟨k + 1, by omega, by go_num, by rw [HS.out]; exact max_val hqe.out, hblkn, hbn⟩
                case measure => simp [intOf]; omega
        · obtain rfl : k = n := by omega
          have hnm : Hid (nj * mo ≤ 2329089562800) := Lib.hid (by rw [← HN.out]; exact hpn.out.2)
          rw [HALL.out, HMO.out] at *
          have hcast : ((nj : Int) * (mo : Int)) ≤ 2329089562800 := by rw [← Int.natCast_mul]; have := hnm.out; omega
          have hcast0 : 0 ≤ ((nj : Int) * (mo : Int)) := Int.mul_nonneg (by omega) (by omega)
          go_wp2
          go_roundw
          case rel => exact ⟨j + 1, by omega, by go_num, by rw [HN.out, Int.natCast_mul], hblk, hbw⟩
          case measure => simp [intOf]; omega
    · obtain rfl : j = 10 := by omega
      have e : Hid (prodTo (ksOf us) 10 = roundP (ksOf us)) := Lib.hid (by rw [round_eq _ HP.out]; rfl)
      go_wp2
      go_ret
      rw [e.out]
      exact ⟨rfl, hbw⟩
end Go.Proofs.Ytjcbnanajelpjaa
