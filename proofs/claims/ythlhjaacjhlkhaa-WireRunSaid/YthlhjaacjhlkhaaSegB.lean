/- Contracts of seg.Check, ringref4.SegFault, sameBytes, seg.Sum, ringref4.SegSum. -/
import Derived.Test.YthlhjaacjhlkhaaSegA
import Derived.Test.YthlhjaacjhlkhaaMem
import Derived.Test.YthlhjaacjhlkhaaSumP
import Derived.LoopTactic
import Derived.Deep.Light
import Derived.Test.YthlhjaacjhlkhaaFlow
import Derived.Laws.BitsAllLaws
namespace Go.Proofs.Ythlhjaacjhlkhaa
open Go.RowKit
set_option maxHeartbeats 400000
set_option linter.unusedVariables false
set_option linter.unusedSimpArgs false

/-- P50.1. -/
def checkI (f wi : Int) (n : Nat) : Int := if f < 0 ∨ 15 < f ∨ wi < 0 ∨ 255 < wi then 1 else if 32 < n then 2 else 0
theorem check_any (x1 x2 x3 x4 : Int) (p : Option Addr) (n c : Nat) (w : World) :
    Calls Try.prog 16 #[.agg #[.int .u32 x1, .int .u32 x2, .int .i64 x3, .int .i64 x4, .slice p n c]] w fun e w' => e = .returned (.int .i64 (checkI x3 x4 n)) ∧ Below w.heap.size w w' := by
  go_enter Try.func16, Try.ntmps16
  go_wp2
  all_goals
    go_ret
    refine ⟨ret_int ?_, (Below.refl _ _).alloc (Nat.le_refl _) _⟩
    go_light
    unfold checkI
    (repeat' split) <;> omega
theorem u32_ffff (y : Int) (h0 : 0 ≤ y) (h1 : y < 4294967296) : bits .and .u32 y 65535 = y % 65536 :=
  bits_mask .u32 32 (by decide) (fun n h0 h1 => by rw [IntKind.wrap_u32]; omega) 16 (by decide) y h0 h1
theorem u16_flip (y : Int) (h0 : 0 ≤ y) (h1 : y ≤ 65535) : bits .xor .u16 IntKind.u16.max y = 65535 - y := by
  obtain ⟨m, rfl⟩ := Int.eq_ofNat_of_zero_le h0
  show IntKind.u16.wrap ((BitVec.ofInt 16 65535 ^^^ BitVec.ofInt 16 (m : Int)).toNat : Int) = _
  have e : BitVec.ofInt 16 65535 = BitVec.allOnes 16 := by decide
  rw [e, BitVec.allOnes_xor, BitVec.toNat_not, ofInt_u16 m (by omega), IntKind.wrap_u16]
  omega
theorem sum_step (s x : Int) (k : Nat) (xs : List Int) (hk : k < xs.length) (hb : Byt xs) (h0 : (k : Int) % 2 = 0 → s = xs.getD k 0 % 4294967296 * 256) (h1 : (k : Int) % 2 ≠ 0 → s = xs.getD k 0) :
    (bits .and .u32 ((canon (tot 0 (xs.take k)) + s) % 4294967296) 65535 + (canon (tot 0 (xs.take k)) + s) % 4294967296 / 65536) % 4294967296 = canon (tot 0 (xs.take (k + 1))) := by
  have hx : 0 ≤ xs.getD k 0 ∧ xs.getD k 0 < 256 := by
    have := hb xs[k] (List.getElem_mem hk)
    simpa [List.getD, List.getElem?_eq_getElem hk] using this
  have hs : s = wt k (xs.getD k 0) := by
    unfold wt
    by_cases h : k % 2 = 0
    · rw [if_pos h, h0 (by omega)]; omega
    · rw [if_neg h, h1 (by omega)]
  have h2 := wt_range k _ hx
  have h3 := (tot_range (xs.take k) (fun y hy => hb y (List.mem_of_mem_take hy)) 0).1
  have h4 := canon_range _ h3
  rw [tot_take xs k hk, ← canon_add _ _ h3 h2.1 (by omega), hs, u32_ffff _ (by omega) (by omega)]
  omega
theorem sum_any (A : Option Addr) (n c : Nat) (xs : List Int) (w : World) (h : RB w w.heap.size A n xs) (hn : n ≤ maxLen) :
    Calls Try.prog 19 #[.slice A n c] w fun e w' => e = .returned (.int .u16 (sumI xs)) ∧ w = w' := by
  unfold maxLen at hn
  have hl := Lib.hid h.len
  go_enter Try.func19, Try.ntmps19
  go_wp2
  go_loop [3, 8] (fun s i => ∃ k : Nat, k ≤ n ∧ i = .int .i64 k ∧ s = .int .u32 (canon (tot 0 (xs.take k)))) (fun _ i => n - (intOf i).toNat)
  case atStart => exact ⟨0, Nat.zero_le _, rfl, rfl⟩
  case round =>
    obtain ⟨k, hk, rfl, rfl⟩ := hrel
    by_cases hlt : k < n
    · obtain ⟨b, o, rfl, hb, hc, h0, h1⟩ := h.at_ hlt
      go_wp2
      all_goals
        go_light
        go_round
        case rel => exact ⟨k + 1, by omega, by go_num, congrArg (Value.int IntKind.u32) (sum_step _ (xs.getD k 0) k xs (by rw [hl.out]; exact hlt) h.2 (by intro hh; first | rfl | simp_all) (by intro hh; first | rfl | simp_all))⟩
        case measure => simp [intOf]; omega
    · have h3 := (tot_range (xs.take k) (fun y hy => h.2 y (List.mem_of_mem_take hy)) 0).1
      have h4 := canon_range _ h3
      go_wp2
      go_ret
      refine ⟨ret_int ?_, rfl⟩
      show bits .xor .u16 IntKind.u16.max (canon (tot 0 (List.take k xs))) = _
      rw [u16_flip _ h4.1 h4.2, List.take_of_length_le (by rw [hl.out]; omega)]
      rfl
theorem sameBytes_any (A A' : Option Addr) (n c n' c' : Nat) (xs ys : List Int) (w : World) (B B' : Nat) (h : RB w B A n xs) (h' : RB w B' A' n' ys) :
    Calls Try.prog 18 #[.slice A n c, .slice A' n' c'] w fun e w' => e = .returned (.bool (decide (xs = ys))) ∧ w = w' := by
  have e1 := h.conv (P := Try.prog) c 23 9 5 Try.underlying23 Try.underlying5 Try.underlying9
  have e2 := h'.conv (P := Try.prog) c' 23 9 5 Try.underlying23 Try.underlying5 Try.underlying9
  go_enter Try.func18, Try.ntmps18
  go_wp2
  go_ret
  exact ⟨ret_bool (strOfNums_beq h.2 h'.2), rfl⟩
theorem andNot15 (x : Int) (k : Nat) (m : Nat) (hk : k ≤ 62) (hm : m = 2 ^ k) (h0 : -9223372036854775808 ≤ x) (h1 : x ≤ 9223372036854775807) : (bits .andNot .i64 x ((m : Int) - 1) != 0) = decide (x < 0 ∨ (m : Int) ≤ x) := by
  have hle : m ≤ 2 ^ 62 := by rw [hm]; exact Nat.pow_le_pow_right (by decide) hk
  have hpos : 0 < m := by rw [hm]; exact Nat.two_pow_pos k
  have e2 : (BitVec.ofInt 64 ((m : Int) - 1)).toNat = m - 1 := by rw [BitVec.toNat_ofInt]; omega
  have e1 : (BitVec.ofInt 64 x).toNat = (x % 18446744073709551616).toNat := by rw [BitVec.toNat_ofInt]; rfl
  have e3 : bits .andNot .i64 x ((m : Int) - 1) = IntKind.i64.wrap (((x % 18446744073709551616).toNat &&& (18446744073709551615 - (m - 1)) : Nat) : Int) := by
    show IntKind.i64.wrap ((BitVec.ofInt 64 x &&& ~~~BitVec.ofInt 64 ((m : Int) - 1)).toNat : Int) = _
    rw [BitVec.toNat_and, BitVec.toNat_not, e1, e2]
  generalize hu : (x % 18446744073709551616).toNat = u at e3
  have hu2 : u < 18446744073709551616 := by omega
  have hq : 18446744073709551616 = m * (18446744073709551616 / m) := by
    rw [Nat.mul_div_cancel']; rw [hm, show 18446744073709551616 = 2 ^ 64 from rfl]; exact Nat.pow_dvd_pow 2 (by omega)
  generalize 18446744073709551616 / m = q at hq
  have hqp : q = 2 ^ (64 - k) := by
    have : 2 ^ 64 = 2 ^ k * 2 ^ (64 - k) := by rw [← Nat.pow_add]; congr 1; omega
    have h2 : m * q = m * 2 ^ (64 - k) := by rw [← hq, hm]; exact this
    exact Nat.eq_of_mul_eq_mul_left hpos h2
  have hqpos : 0 < q := by rw [hqp]; exact Nat.two_pow_pos _
  have hmask : 18446744073709551615 - (m - 1) = m * (q - 1) := by
    rw [Nat.mul_sub, ← hq]; omega
  have d1 : (u &&& m * (q - 1)) / m = u / m := by
    have := @Nat.and_div_two_pow u (m * (q - 1)) k
    rw [← hm, Nat.mul_div_cancel_left _ hpos] at this
    rw [this, hqp, Nat.and_two_pow_sub_one_eq_mod, ← hqp]
    exact Nat.mod_eq_of_lt (by rw [Nat.div_lt_iff_lt_mul hpos, Nat.mul_comm]; omega)
  have d2 : (u &&& m * (q - 1)) % m = 0 := by
    have := @Nat.and_mod_two_pow u (m * (q - 1)) k
    rw [← hm, Nat.mul_mod_right, Nat.and_zero] at this
    exact this
  rw [hmask] at e3
  rw [e3]
  generalize u &&& m * (q - 1) = y at d1 d2
  have hy : y = m * (u / m) := by rw [← d1]; exact (Nat.mul_div_cancel' (Nat.dvd_of_mod_eq_zero d2)).symm
  have hyu : y ≤ u := by rw [hy]; exact Nat.mul_div_le u m
  have hz : y = 0 ↔ u < m := by
    rw [hy]
    constructor
    · intro h
      have : u / m = 0 := by
        rcases Nat.mul_eq_zero.1 h with h | h
        · omega
        · exact h
      exact (Nat.div_eq_zero_iff_lt hpos).1 this
    · intro h; rw [Nat.div_eq_of_lt h]; rfl
  have hw : IntKind.i64.wrap (y : Int) = 0 ↔ y = 0 := by
    rw [IntKind.wrap_i64]; omega
  rw [Bool.eq_iff_iff]
  simp only [bne_iff_ne, ne_eq, decide_eq_true_eq, hw, hz]
  omega
theorem segFault_any (x1 x2 x3 x4 : Int) (p : Option Addr) (n c : Nat) (w : World) (h3 : -9223372036854775808 ≤ x3 ∧ x3 ≤ 9223372036854775807) (h4 : -9223372036854775808 ≤ x4 ∧ x4 ≤ 9223372036854775807) :
    Calls Try.prog 17 #[.agg #[.int .u32 x1, .int .u32 x2, .int .i64 x3, .int .i64 x4, .slice p n c]] w fun e w' => e = .returned (.int .i64 (checkI x3 x4 n)) ∧ Below w.heap.size w w' := by
  have f1 : (bits .andNot .i64 x3 15 != 0) = decide (x3 < 0 ∨ 16 ≤ x3) := andNot15 x3 4 16 (by decide) rfl h3.1 h3.2
  have f2 : (bits .andNot .i64 x4 255 != 0) = decide (x4 < 0 ∨ 256 ≤ x4) := andNot15 x4 8 256 (by decide) rfl h4.1 h4.2
  go_enter Try.func17, Try.ntmps17
  go_wp2
  all_goals
    go_ret
    refine ⟨ret_int ?_, (Below.refl _ _).alloc (Nat.le_refl _) _⟩
    go_light
    unfold checkI
    (repeat' split) <;> omega
/-- What a byte at place k counts. -/
def wk (k : Nat) : Int := if (k : Int) % 2 = 0 then 256 else 1
theorem wk_pos {k : Nat} (h : (k : Int) % 2 = 0) : wk k = 256 := if_pos h
theorem wk_neg {k : Nat} (h : ¬ (k : Int) % 2 = 0) : wk k = 1 := if_neg h
theorem wk_wt (k : Nat) (x : Int) : x * wk k = wt k x := by unfold wk wt; split <;> split <;> omega
set_option maxHeartbeats 4000000 in
theorem segSum_any (A : Option Addr) (n c : Nat) (xs : List Int) (w : World) (h : RB w w.heap.size A n xs) (hn : n ≤ 140737488355328) :
    Calls Try.prog 20 #[.slice A n c] w fun e w' => e = .returned (.int .u16 (sumI xs)) ∧ Below w.heap.size w w' := by
  have hl := Lib.hid h.len
  go_enter Try.func20, Try.ntmps20
  go_wp2
  go_loopw [3, 4] (fun s i wr => ∃ k : Nat, k ≤ n ∧ i = .int .i64 k ∧ s = .int .i64 (tot 0 (xs.take k)) ∧ Below w.heap.size w wr) (fun _ i _ => n - (intOf i).toNat)
  case atStart => exact ⟨0, Nat.zero_le _, rfl, rfl, Below.refl _ _⟩
  case round =>
    obtain ⟨k, hk, rfl, rfl, hbw⟩ := hrel
    have ht := tot_range (xs.take k) (fun y hy => h.2 y (List.mem_of_mem_take hy)) 0
    have htl : (xs.take k).length ≤ k := List.length_take_le _ _
    by_cases hlt : k < n
    · obtain ⟨b, o, rfl, hb, hc, h0, h1⟩ := (h.below' hbw (Nat.le_refl _)).at_ hlt
      go_wp2
      refine wp_region_walk (fun w' => Below w.heap.size w w' ∧ w'.cell? ⟨b, o + k, none⟩ = some (.int .u8 (xs.getD k 0))) [[], [], [], [(12, 1), (13, 2)], [(14, 3)], [(15, 4)], [], [], [(18, 7)], [(17, 6), (19, 8)], [(20, 9)], [(16, 5), (21, 10)], [(11, 0), (22, 11)]]
        [(11, 0), (12, 1), (13, 2), (14, 3), (15, 4), (16, 5), (17, 6), (18, 7), (19, 8), (20, 9), (21, 10), (22, 11), (23, 12)] (by kernel_rfl) (by kernel_rfl) (by kernel_rfl) ⟨hbw.drew, hc⟩ ?_
      apply Flow.det_step
      · go_light
        intro w1 hC1
        simp only [Flow.fill, List.setIfInBounds_toArray, List.set_cons_zero, List.set_cons_succ]
        obtain ⟨hb1, hc1⟩ := hC1
        go_wp2
        exact Flow.post_det ⟨hb1, hc1⟩ (Grow.refl _) rfl rfl
      apply Flow.det_step
      · go_light
        intro w1 hC1
        simp only [Flow.fill, List.setIfInBounds_toArray, List.set_cons_zero, List.set_cons_succ]
        obtain ⟨hb1, hc1⟩ := hC1
        go_wp2
        exact Flow.post_det ⟨hb1, hc1⟩ (Grow.refl _) rfl rfl
      apply Flow.det_step
      · go_light
        intro w1 hC1
        simp only [Flow.fill, List.setIfInBounds_toArray, List.set_cons_zero, List.set_cons_succ]
        obtain ⟨hb1, hc1⟩ := hC1
        go_wp2
        exact Flow.post_det ⟨hb1, hc1⟩ (Grow.refl _) rfl rfl
      apply Flow.det_step
      · go_light
        intro w1 hC1
        simp only [Flow.fill, Flow.after, Flow.at_, List.nil_append, List.cons_append, List.getD_cons_zero, List.getD_cons_succ, det, forall_eq, List.setIfInBounds_toArray, List.set_cons_zero, List.set_cons_succ, List.drop, List.length]
        obtain ⟨hb1, hc1⟩ := hC1
        go_wp2
        exact Flow.post_det ⟨hb1, hc1⟩ (Grow.refl _) rfl rfl
      apply Flow.det_step
      · go_light
        intro w1 hC1
        simp only [Flow.fill, Flow.after, Flow.at_, List.nil_append, List.cons_append, List.getD_cons_zero, List.getD_cons_succ, det, forall_eq, List.setIfInBounds_toArray, List.set_cons_zero, List.set_cons_succ, List.drop, List.length]
        obtain ⟨hb1, hc1⟩ := hC1
        go_wp2
        exact Flow.post_det ⟨hb1, hc1⟩ (Grow.refl _) rfl rfl
      apply Flow.det_step
      · go_light
        intro w1 hC1
        simp only [Flow.fill, Flow.after, Flow.at_, List.nil_append, List.cons_append, List.getD_cons_zero, List.getD_cons_succ, det, forall_eq, List.setIfInBounds_toArray, List.set_cons_zero, List.set_cons_succ, List.drop, List.length]
        obtain ⟨hb1, hc1⟩ := hC1
        go_wp2
        exact Flow.post_det ⟨hb1, hc1⟩ (Grow.refl _) rfl rfl
      refine Flow.st_step (freshSt (fun g => .slice (some ⟨g, 0, none⟩) 2 2) [.int .i64 256, .int .i64 1]) ?_ ?_
      · go_light
        intro w1 ⟨hb1, hc1⟩
        simp only [Flow.fill, List.setIfInBounds_toArray, List.set_cons_zero, List.set_cons_succ]
        go_wp2
        refine ⟨⟨hb1.alloc hb1.size _, ?_⟩, Grow.alloc _ _, rfl, w1.heap.size, rfl, by simp, fun i u hu => ?_⟩
        · rw [World.cell?_alloc_lt _ _ _ (Nat.lt_of_lt_of_le hb hb1.size)]; exact hc1
        · match i, hu with
          | 0, hu => simpa [go_sem] using hu
          | 1, hu => simpa [go_sem] using hu
      apply Flow.det_step
      · go_light
        intro w1 hC1
        simp only [Flow.fill, List.setIfInBounds_toArray, List.set_cons_zero, List.set_cons_succ]
        obtain ⟨hb1, hc1⟩ := hC1
        go_wp2
        exact Flow.post_det ⟨hb1, hc1⟩ (Grow.refl _) rfl rfl
      apply Flow.det_step
      · go_light
        intro w1 hC1
        simp only [Flow.fill, Flow.after, Flow.at_, List.nil_append, List.cons_append, List.getD_cons_zero, List.getD_cons_succ, det, forall_eq, List.setIfInBounds_toArray, List.set_cons_zero, List.set_cons_succ, List.drop, List.length]
        obtain ⟨hb1, hc1⟩ := hC1
        go_wp2
        exact Flow.post_det ⟨hb1, hc1⟩ (Grow.refl _) rfl rfl
      refine Flow.st_step (ptrSt (.int .i64 (wk k))) ?_ ?_
      · go_light
        intro w1 hC1
        simp only [Flow.fill, Flow.after, Flow.at_, List.nil_append, List.cons_append, List.getD_cons_zero, List.getD_cons_succ, det, forall_eq, List.setIfInBounds_toArray, List.set_cons_zero, List.set_cons_succ, List.drop, List.length]
        rintro _ ⟨g, rfl, hg, hcs⟩
        have c0 := hcs 0 _ rfl
        have c1 := hcs 1 _ rfl
        by_cases hev : (k : Int) % 2 = 0
        · go_wp2
          exact ⟨hC1, Grow.refl _, rfl, g, 0, rfl, hg, by rw [wk_pos hev]; exact c0⟩
        · have hev1 : (k : Int) % 2 = 1 := by omega
          go_wp2
          exact ⟨hC1, Grow.refl _, rfl, g, 1, rfl, hg, by rw [wk_neg hev]; exact c1⟩
      apply Flow.det_step
      · go_light
        intro w1 hC1
        simp only [Flow.fill, Flow.after, Flow.at_, List.nil_append, List.cons_append, List.getD_cons_zero, List.getD_cons_succ, det, forall_eq, List.setIfInBounds_toArray, List.set_cons_zero, List.set_cons_succ, List.drop, List.length]
        rintro _ ⟨g, og, rfl, hg, cg⟩
        obtain ⟨hb1, hc1⟩ := hC1
        go_wp2
        exact Flow.post_det ⟨hb1, hc1⟩ (Grow.refl _) rfl rfl
      apply Flow.det_step
      · go_light
        intro w1 hC1
        simp only [Flow.fill, Flow.after, Flow.at_, List.nil_append, List.cons_append, List.getD_cons_zero, List.getD_cons_succ, det, forall_eq, List.setIfInBounds_toArray, List.set_cons_zero, List.set_cons_succ, List.drop, List.length]
        obtain ⟨hb1, hc1⟩ := hC1
        go_wp2
        exact Flow.post_det ⟨hb1, hc1⟩ (Grow.refl _) rfl rfl
      apply Flow.det_step
      · go_light
        intro w1 hC1
        simp only [Flow.fill, Flow.after, Flow.at_, List.nil_append, List.cons_append, List.getD_cons_zero, List.getD_cons_succ, det, forall_eq, List.setIfInBounds_toArray, List.set_cons_zero, List.set_cons_succ, List.drop, List.length]
        obtain ⟨hb1, hc1⟩ := hC1
        go_wp2
        exact Flow.post_det ⟨hb1, hc1⟩ (Grow.refl _) rfl rfl
      intro w1 hC1
      simp only [Flow.fill, Flow.after, Flow.at_, List.nil_append, List.cons_append, List.getD_cons_zero, List.getD_cons_succ, det, forall_eq, List.setIfInBounds_toArray, List.set_cons_zero, List.set_cons_succ, List.drop, List.length]
      rintro v17 - v20 -
      go_wp2
      go_light
      go_roundw
      case rel =>
        refine ⟨k + 1, by omega, by go_num, ?_, hC1.1⟩
        have hw := wk_wt k (xs.getD k 0)
        have hw2 := wt_range k _ ⟨h0, h1⟩
        rw [tot_take xs k (by rw [hl.out]; exact hlt), ← hw]
        rw [← hw] at hw2
        refine congrArg (Value.int IntKind.i64) ?_
        show wrap64 (tot 0 (List.take k xs) + wrap64 (wrap64 (xs.getD k 0) * wk k)) = _
        rw [IntWalk.wrap64_in (xs.getD k 0) ⟨by omega, by omega⟩, IntWalk.wrap64_in (xs.getD k 0 * wk k) ⟨by omega, by omega⟩, IntWalk.wrap64_in _ ⟨by omega, by omega⟩]
      case measure => simp [intOf]; omega
    · go_wp2
      go_loop [3] (fun s => ∃ q : Int, 0 ≤ q ∧ q ≤ 9223372036854775807 ∧ s = .int .i64 q ∧ canon q = canon (tot 0 xs)) (fun s => (intOf s).toNat)
      case atStart => exact ⟨_, ht.1, by omega, rfl, by rw [List.take_of_length_le (by rw [hl.out]; omega)]⟩
      case round =>
        obtain ⟨q, hq0, hq1, rfl, hq⟩ := hrel
        have HQ := Lib.hid hq
        clear hq
        by_cases hbig : 65535 < q
        · go_wp2
          go_light
          go_round
          case rel => exact ⟨_, by omega, by omega, rfl, by rw [canon_fold q hbig]; exact HQ.out⟩
          case measure => simp [intOf]; omega
        · go_wp2
          go_ret
          refine ⟨ret_int ?_, hbw⟩
          show 65535 - q = _
          have := HQ.out
          rw [canon_small q hq0 (by omega)] at this
          unfold sumI
          rw [← this]
end Go.Proofs.Ythlhjaacjhlkhaa
