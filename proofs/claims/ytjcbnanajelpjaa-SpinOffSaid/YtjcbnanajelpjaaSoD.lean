/- The law ringlaw1.SpinOff. -/
import Derived.Test.YtjcbnanajelpjaaSoC
namespace Go.Proofs.Ytjcbnanajelpjaa
open Go.RowKit
set_option maxHeartbeats 400000
set_option linter.unusedVariables false
set_option linter.unusedSimpArgs false
theorem on_is {b : Bool} {d : Int} (g : Nat) (vs vc : Value) (st : List Bool) (on : Bool) (cm : List Int) (w : World) (B : Nat) (h : OffSt w B g vs vc st on cm) (hb : on = b) (hd : (st.length : Int) = d) :
    Calls Try.prog 28 #[.pointer (some ⟨g, 0, none⟩)] w fun e w' => e = .returned (.tuple #[.bool b, .int .i64 d]) ∧ ∃ n, w' = w.drewN n := by
  subst hb; subst hd; exact on_any g vs vc st on cm w B h
set_option maxHeartbeats 16000000 in
set_option maxRecDepth 100000 in
theorem law_spinOff (A : Option Addr) (n c : Nat) (ps : List Pl) (w : World) (h : RPl w w.heap.size A n ps) (hn : n ≤ 5864062014634) :
    Calls Try.prog 5 #[.slice A n c] w fun e w' => e = .returned (.bool true) ∧ Below w.heap.size w w' := by
  obtain ⟨i0, hi, hz0, hz1, hz2⟩ := info_parts Try.infoInt
  go_enter Try.func5, Try.ntmps5
  go_wp2_with fail
  refine (newOff_any _).mono ?_
  rintro e w0 ⟨rfl, rfl⟩
  go_wp2_with fail
  have h0 := off_new w w.heap.size (Nat.le_refl _)
  refine (save_any w.heap.size _ _ _ _ _ _ w.heap.size h0 (by simp) (by simp)).mono ?_
  rintro e w1 ⟨rfl, vs1, vc1, ho1, hf1, hF1⟩
  have hb1 : Below w.heap.size w w1 := ((Below.refl _ _).alloc (Nat.le_refl _) _).trans (hf1.below (by simp) h0.lowF)
  clear h0 hf1 hF1
  go_wp2_with fail
  refine (come_new w.heap.size vs1 vc1 _ _ 3 _ w.heap.size ho1 hb1.size (by omega) rfl (by simp)).mono ?_
  rintro e w2 ⟨rfl, vs2, vc2, ho2, hf2, hF2⟩
  have hb2 : Below w.heap.size w w2 := hb1.trans (hf2.below hb1.size ho1.lowF)
  clear ho1 ho2 hf2 hF2 hb1
  go_wp2_with fail
  refine (newOff_any _).mono ?_
  rintro e w0 ⟨rfl, rfl⟩
  go_wp2_with fail
  have hI0 := SoI.start w w2 hb2
  clear hb2
  generalize w2.alloc (.cells #[.int .i64 0, .slice none 0 0, .bool true, .slice none 0 0, .int .u32 0] 115) = w3 at *
  generalize w2.heap.size = g at *
  go_loopw [7, 8, 40] (fun dd v8 i wr => ∃ (k d : Nat) (cm : List Int), k ≤ n ∧ i = .int .i64 k ∧ d ≤ 16 ∧ dd = .int .i64 d ∧ cm.length ≤ k ∧ SoI w wr g v8 d cm cm) (fun _ _ i _ => n - (intOf i).toNat)
  case atStart => exact ⟨0, 0, [], by omega, rfl, by omega, rfl, by simp, hI0⟩
  case round =>
    clear hI0
    obtain ⟨k, d, cm, hk, rfl, hd, rfl, hcm, hI⟩ := hrel
    obtain ⟨vs, vc, ho, hr, hdis, hb⟩ := hI
    obtain ⟨A8, c8, rfl, hc81, hc82⟩ := hr.shape
    by_cases hlt : k < n
    · obtain ⟨b, o, rfl, hbB, hcell, hfine⟩ := (h.below' hb (Nat.le_refl _)).at_ hlt
      generalize ps.getD k .zero = p at *
      obtain ⟨Ap, np, cp, xs⟩ := p
      obtain ⟨hri, hnp⟩ := hfine
      dsimp only at hcell hri hnp
      have hkn : (k : Int) < n := by omega
      have hbw : b < wr.heap.size := by have := hb.size; omega
      have hx1 := i64_range (RI.rng hri 1 (by decide))
      go_wp2_with fail
      refine (at_any Ap np cp xs 1 _ _ (RD.of_ri hri) hnp (by omega)).mono ?_
      rintro e w4 ⟨rfl, rfl⟩
      generalize xs.getD 1 0 = x at *
      go_wp2_with fail
      refine (at_any Ap np cp xs 0 _ _ (RD.of_ri hri) hnp (by omega)).mono ?_
      rintro e w4 ⟨rfl, rfl⟩
      generalize xs.getD 0 0 = y at *
      rcases d with _ | d
      · simp only [Int.natCast_zero]
        have hI : SoI w wr g (.slice A8 cm.length c8) (0) cm cm := ⟨vs, vc, ho, hr, hdis, hb⟩
        by_cases hy1 : y = 1
        · have HY := Lib.hid hy1
          have e1 : (y == 1) = true := by simpa using hy1
          clear hy1
          go_wp2_with fail
          refine (save_any g vs vc _ _ _ _ _ ho (by rw [stk_len]; omega) hb.size).mono ?_
          rintro e w8 ⟨rfl, hgo⟩
          have hK : SoI w w8 g (.slice A8 cm.length c8) 1 cm cm := SoI.go ho hr hdis hb hgo (stk_push 0) (by simp)
          clear hgo hI ho hr hdis
          obtain ⟨vs9, vc9, ho9, hr9, hdis9, hb9⟩ := hK
          go_wp2_with fail
          refine (on_is (b := false) (d := 1) g vs9 vc9 _ _ _ _ _ ho9 (by simp <;> omega) (by first | (rw [stk_len]; done) | (rw [stk_len]; omega))).mono ?_
          rintro e w9 ⟨rfl, nq, rfl⟩
          have hJ : SoI w (World.drewN w8 nq) g _ (1) (cm) (cm) := SoI.drewN ⟨vs9, vc9, ho9, hr9, hdis9, hb9⟩ nq
          clear ho9 hr9 hdis9 hb9
          go_wp2
          go_roundw
          case rel => exact ⟨k + 1, 1, cm, by omega, by go_num, by omega, by first | rfl | go_num, by first | omega | (simp <;> omega), hJ⟩
          case measure => simp [intOf]; omega
        have e1 : (y == 1) = false := by simpa using hy1
        by_cases hy2 : y = 2
        · have HY := Lib.hid hy2
          have e2 : (y == 2) = true := by simpa using hy2
          clear hy1 hy2
          go_wp2_with fail
          refine (back_none g vs vc _ _ _ _ ho).mono ?_
          rintro e w8 ⟨rfl, rfl⟩
          clear ho hr hdis
          obtain ⟨vs9, vc9, ho9, hr9, hdis9, hb9⟩ := hI
          go_wp2_with fail
          refine (on_is (b := true) (d := 0) g vs9 vc9 _ _ _ _ _ ho9 (by simp <;> omega) (by first | (rw [stk_len]; done) | (rw [stk_len]; omega))).mono ?_
          rintro e w9 ⟨rfl, nq, rfl⟩
          have hJ : SoI w (World.drewN wr nq) g _ (0) (cm) (cm) := SoI.drewN ⟨vs9, vc9, ho9, hr9, hdis9, hb9⟩ nq
          clear ho9 hr9 hdis9 hb9
          go_wp2
          go_roundw
          case rel => exact ⟨k + 1, 0, cm, by omega, by go_num, by omega, by first | rfl | go_num, by first | omega | (simp <;> omega), hJ⟩
          case measure => simp [intOf]; omega
        have e2 : (y == 2) = false := by simpa using hy2
        by_cases hy3 : y = 3
        · have HY := Lib.hid hy3
          have e3 : (y == 3) = true := by simpa using hy3
          clear hy1 hy2 hy3
          by_cases hx0 : x < 0
          · have f1 : decide (x < 0) = true := by simpa using hx0
            go_wp2_with fail
            refine (come_bad g x _ (by omega)).mono ?_
            rintro e w8 ⟨rfl, rfl⟩
            clear ho hr hdis
            obtain ⟨vs9, vc9, ho9, hr9, hdis9, hb9⟩ := hI
            go_wp2_with fail
            refine (on_is (b := true) (d := 0) g vs9 vc9 _ _ _ _ _ ho9 (by simp <;> omega) (by first | (rw [stk_len]; done) | (rw [stk_len]; omega))).mono ?_
            rintro e w9 ⟨rfl, nq, rfl⟩
            have hJ : SoI w (World.drewN wr nq) g _ (0) (cm) (cm) := SoI.drewN ⟨vs9, vc9, ho9, hr9, hdis9, hb9⟩ nq
            clear ho9 hr9 hdis9 hb9
            go_wp2
            go_roundw
            case rel => exact ⟨k + 1, 0, cm, by omega, by go_num, by omega, by first | rfl | go_num, by first | omega | (simp <;> omega), hJ⟩
            case measure => simp [intOf]; omega
          have f1 : decide (x < 0) = false := by simpa using hx0
          by_cases hx31 : 31 < x
          · have f2 : decide (31 < x) = true := by simpa using hx31
            go_wp2_with fail
            refine (come_bad g x _ (by omega)).mono ?_
            rintro e w8 ⟨rfl, rfl⟩
            clear ho hr hdis
            obtain ⟨vs9, vc9, ho9, hr9, hdis9, hb9⟩ := hI
            go_wp2_with fail
            refine (on_is (b := true) (d := 0) g vs9 vc9 _ _ _ _ _ ho9 (by simp <;> omega) (by first | (rw [stk_len]; done) | (rw [stk_len]; omega))).mono ?_
            rintro e w9 ⟨rfl, nq, rfl⟩
            have hJ : SoI w (World.drewN wr nq) g _ (0) (cm) (cm) := SoI.drewN ⟨vs9, vc9, ho9, hr9, hdis9, hb9⟩ nq
            clear ho9 hr9 hdis9 hb9
            go_wp2
            go_roundw
            case rel => exact ⟨k + 1, 0, cm, by omega, by go_num, by omega, by first | rfl | go_num, by first | omega | (simp <;> omega), hJ⟩
            case measure => simp [intOf]; omega
          have f2 : decide (31 < x) = false := by simpa using hx31
          go_wp2_with fail
          refine (come_on g vs vc _ _ x _ _ ho (by omega)).mono ?_
          rintro e w8 ⟨rfl, rfl⟩
          clear ho hr hdis
          obtain ⟨vs9, vc9, ho9, hr9, hdis9, hb9⟩ := hI
          go_wp2_with fail
          refine (on_is (b := true) (d := 0) g vs9 vc9 _ _ _ _ _ ho9 (by simp <;> omega) (by first | (rw [stk_len]; done) | (rw [stk_len]; omega))).mono ?_
          rintro e w9 ⟨rfl, nq, rfl⟩
          have hJ : SoI w (World.drewN wr nq) g _ (0) (cm) (cm) := SoI.drewN ⟨vs9, vc9, ho9, hr9, hdis9, hb9⟩ nq
          clear ho9 hr9 hdis9 hb9
          go_wp2
          go_roundw
          case rel => exact ⟨k + 1, 0, cm, by omega, by go_num, by omega, by first | rfl | go_num, by first | omega | (simp <;> omega), hJ⟩
          case measure => simp [intOf]; omega
        have e3 : (y == 3) = false := by simpa using hy3
        clear ho hr hdis
        obtain ⟨vs9, vc9, ho9, hr9, hdis9, hb9⟩ := hI
        go_wp2_with fail
        refine (on_is (b := true) (d := 0) g vs9 vc9 _ _ _ _ _ ho9 (by simp <;> omega) (by first | (rw [stk_len]; done) | (rw [stk_len]; omega))).mono ?_
        rintro e w9 ⟨rfl, nq, rfl⟩
        have hJ : SoI w (World.drewN wr nq) g _ (0) (cm) (cm) := SoI.drewN ⟨vs9, vc9, ho9, hr9, hdis9, hb9⟩ nq
        clear ho9 hr9 hdis9 hb9
        go_wp2
        go_roundw
        case rel => exact ⟨k + 1, 0, cm, by omega, by go_num, by omega, by first | rfl | go_num, by first | omega | (simp <;> omega), hJ⟩
        case measure => simp [intOf]; omega
      · simp only [Int.natCast_add, Int.natCast_one]
        have q0 : ((d : Int) + 1 == 0) = false := by simp <;> omega
        have q1 : decide (0 < (d : Int) + 1) = true := by simp <;> omega
        have hI : SoI w wr g (.slice A8 cm.length c8) (d + 1) cm cm := ⟨vs, vc, ho, hr, hdis, hb⟩
        by_cases hy1 : y = 1
        · have HY := Lib.hid hy1
          have e1 : (y == 1) = true := by simpa using hy1
          clear hy1
          by_cases h15 : d = 15
          · subst h15
            go_wp2_with fail
            refine (save_full g vs vc _ _ _ _ _ ho (stk_len 16)).mono ?_
            rintro e w8 ⟨rfl, rfl⟩
            clear ho hr hdis
            obtain ⟨vs9, vc9, ho9, hr9, hdis9, hb9⟩ := hI
            go_wp2_with fail
            refine (on_is (b := false) (d := 16) g vs9 vc9 _ _ _ _ _ ho9 (by simp <;> omega) (by first | (rw [stk_len]; done) | (rw [stk_len]; omega))).mono ?_
            rintro e w9 ⟨rfl, nq, rfl⟩
            have hJ : SoI w (World.drewN wr nq) g _ (15 + 1) (cm) (cm) := SoI.drewN ⟨vs9, vc9, ho9, hr9, hdis9, hb9⟩ nq
            clear ho9 hr9 hdis9 hb9
            go_wp2
            go_roundw
            case rel => exact ⟨k + 1, 15 + 1, cm, by omega, by go_num, by omega, by first | rfl | go_num, by first | omega | (simp <;> omega), hJ⟩
            case measure => simp [intOf]; omega
          · have q16 : ((d : Int) + 1 == 16) = false := by simp <;> omega
            go_wp2_with fail
            refine (save_any g vs vc _ _ _ _ _ ho (by rw [stk_len]; omega) hb.size).mono ?_
            rintro e w8 ⟨rfl, hgo⟩
            have hK : SoI w w8 g (.slice A8 cm.length c8) (d + 1 + 1) cm cm := SoI.go ho hr hdis hb hgo (stk_push (d + 1)) (by simp)
            clear hgo hI ho hr hdis
            obtain ⟨vs9, vc9, ho9, hr9, hdis9, hb9⟩ := hK
            go_wp2_with fail
            refine (on_is (b := false) (d := (d : Int) + 1 + 1) g vs9 vc9 _ _ _ _ _ ho9 (by simp <;> omega) (by first | (rw [stk_len]; done) | (rw [stk_len]; omega))).mono ?_
            rintro e w9 ⟨rfl, nq, rfl⟩
            have hJ : SoI w (World.drewN w8 nq) g _ (d + 1 + 1) (cm) (cm) := SoI.drewN ⟨vs9, vc9, ho9, hr9, hdis9, hb9⟩ nq
            clear ho9 hr9 hdis9 hb9
            go_wp2
            go_roundw
            case rel => exact ⟨k + 1, d + 1 + 1, cm, by omega, by go_num, by omega, by first | rfl | go_num, by first | omega | (simp <;> omega), hJ⟩
            case measure => simp [intOf]; omega
        have e1 : (y == 1) = false := by simpa using hy1
        by_cases hy2 : y = 2
        · have HY := Lib.hid hy2
          have e2 : (y == 2) = true := by simpa using hy2
          clear hy1 hy2
          rw [← stk_push d] at ho
          by_cases hd0 : d = 0
          · subst hd0
            go_wp2_with fail
            refine (back_any g vs vc (stk 0) true _ _ _ _ ho (by rw [stk_len]; omega)).mono ?_
            rintro e w8 ⟨rfl, hrc, hgo⟩
            have hK : SoI w w8 g (.slice A8 cm.length c8) 0 [] cm := SoI.go ho hr hdis hb hgo rfl (by simp)
            obtain ⟨Ac, cc, hvc, hcc1, hcc2⟩ := hrc.shape
            subst hvc
            simp only [if_true]
            obtain ⟨vs7, vc7, ho7, hr7, hdis7, hb7⟩ := hK
            clear hgo hI ho hr hdis
            go_wp2_with fail
            refine (equal_any _ _ _ _ _ _ cm cm _ _ _ (RD.of_row hrc) (RD.of_row hr7) (Nat.le_refl _) (Nat.le_refl _) (by omega) (by omega)).mono ?_
            rintro e w7 ⟨rfl, hb8⟩
            rw [decide_eq_true rfl]
            have hK2 : SoI w w7 g (.slice none 0 0) 0 [] [] := (SoI.grow ⟨vs7, vc7, ho7, hr7, hdis7, hb7⟩ hb8).nil
            clear ho7 hr7 hdis7 hb7 hb8 hrc
            obtain ⟨vs9, vc9, ho9, hr9, hdis9, hb9⟩ := hK2
            go_wp2_with fail
            refine (on_is (b := true) (d := 0) g vs9 vc9 _ _ _ _ _ ho9 (by simp <;> omega) (by first | (rw [stk_len]; done) | (rw [stk_len]; omega))).mono ?_
            rintro e w9 ⟨rfl, nq, rfl⟩
            have hJ : SoI w (World.drewN w7 nq) g _ (0) ([]) ([]) := SoI.drewN ⟨vs9, vc9, ho9, hr9, hdis9, hb9⟩ nq
            clear ho9 hr9 hdis9 hb9
            go_wp2
            go_roundw
            case rel => exact ⟨k + 1, 0, [], by omega, by go_num, by omega, by first | rfl | go_num, by first | omega | (simp <;> omega), hJ⟩
            case measure => simp [intOf]; omega
          · have b0 : decide (d = 0) = false := by simpa using hd0
            have q0 : decide (0 < (d : Int)) = true := by simp <;> omega
            have q0n : decide (0 < d) = true := by simp <;> omega
            have q1 : ((d : Int) == 0) = false := by simp <;> omega
            rw [b0] at ho
            go_wp2_with fail
            refine (back_any g vs vc (stk d) false _ _ _ _ ho (by rw [stk_len]; omega)).mono ?_
            rintro e w8 ⟨rfl, hrc, hgo⟩
            simp only [Bool.false_eq_true, if_false] at hgo ⊢
            have hK : SoI w w8 g (.slice A8 cm.length c8) d cm cm := SoI.go ho hr hdis hb hgo rfl b0.symm
            clear hgo hI ho hr hdis hrc
            obtain ⟨vs9, vc9, ho9, hr9, hdis9, hb9⟩ := hK
            go_wp2_with fail
            refine (on_is (b := false) (d := (d : Int)) g vs9 vc9 _ _ _ _ _ ho9 (by simp <;> omega) (by first | (rw [stk_len]; done) | (rw [stk_len]; omega))).mono ?_
            rintro e w9 ⟨rfl, nq, rfl⟩
            have hJ : SoI w (World.drewN w8 nq) g _ (d) (cm) (cm) := SoI.drewN ⟨vs9, vc9, ho9, hr9, hdis9, hb9⟩ nq
            clear ho9 hr9 hdis9 hb9
            go_wp2
            go_roundw
            case rel => exact ⟨k + 1, d, cm, by omega, by go_num, by omega, by first | rfl | go_num, by first | omega | (simp <;> omega), hJ⟩
            case measure => simp [intOf]; omega
        have e2 : (y == 2) = false := by simpa using hy2
        by_cases hy3 : y = 3
        · have HY := Lib.hid hy3
          have e3 : (y == 3) = true := by simpa using hy3
          clear hy1 hy2 hy3
          by_cases hx0 : x < 0
          · have f1 : decide (x < 0) = true := by simpa using hx0
            go_wp2_with fail
            refine (come_bad g x _ (by omega)).mono ?_
            rintro e w8 ⟨rfl, rfl⟩
            clear ho hr hdis
            obtain ⟨vs9, vc9, ho9, hr9, hdis9, hb9⟩ := hI
            go_wp2_with fail
            refine (on_is (b := false) (d := (d : Int) + 1) g vs9 vc9 _ _ _ _ _ ho9 (by simp <;> omega) (by first | (rw [stk_len]; done) | (rw [stk_len]; omega))).mono ?_
            rintro e w9 ⟨rfl, nq, rfl⟩
            have hJ : SoI w (World.drewN wr nq) g _ (d + 1) (cm) (cm) := SoI.drewN ⟨vs9, vc9, ho9, hr9, hdis9, hb9⟩ nq
            clear ho9 hr9 hdis9 hb9
            go_wp2
            go_roundw
            case rel => exact ⟨k + 1, d + 1, cm, by omega, by go_num, by omega, by first | rfl | go_num, by first | omega | (simp <;> omega), hJ⟩
            case measure => simp [intOf]; omega
          have f1 : decide (x < 0) = false := by simpa using hx0
          by_cases hx31 : 31 < x
          · have f2 : decide (31 < x) = true := by simpa using hx31
            go_wp2_with fail
            refine (come_bad g x _ (by omega)).mono ?_
            rintro e w8 ⟨rfl, rfl⟩
            clear ho hr hdis
            obtain ⟨vs9, vc9, ho9, hr9, hdis9, hb9⟩ := hI
            go_wp2_with fail
            refine (on_is (b := false) (d := (d : Int) + 1) g vs9 vc9 _ _ _ _ _ ho9 (by simp <;> omega) (by first | (rw [stk_len]; done) | (rw [stk_len]; omega))).mono ?_
            rintro e w9 ⟨rfl, nq, rfl⟩
            have hJ : SoI w (World.drewN wr nq) g _ (d + 1) (cm) (cm) := SoI.drewN ⟨vs9, vc9, ho9, hr9, hdis9, hb9⟩ nq
            clear ho9 hr9 hdis9 hb9
            go_wp2
            go_roundw
            case rel => exact ⟨k + 1, d + 1, cm, by omega, by go_num, by omega, by first | rfl | go_num, by first | omega | (simp <;> omega), hJ⟩
            case measure => simp [intOf]; omega
          have f2 : decide (31 < x) = false := by simpa using hx31
          cases hct : cm.contains x with
          | true =>
            have HC := Lib.hid hct
            clear hct
            go_wp2_with fail
            refine (come_has g vs vc _ _ x _ _ ho (by omega) HC.out (by omega)).mono ?_
            rintro e w8 ⟨rfl, rfl⟩
            go_wp2_with fail
            refine (contains_is _ _ _ x cm _ _ (RD.of_row hr) (by omega) HC.out).mono ?_
            rintro e w8 ⟨rfl, rfl⟩
            clear ho hr hdis
            obtain ⟨vs9, vc9, ho9, hr9, hdis9, hb9⟩ := hI
            go_wp2_with fail
            refine (on_is (b := false) (d := (d : Int) + 1) g vs9 vc9 _ _ _ _ _ ho9 (by simp <;> omega) (by first | (rw [stk_len]; done) | (rw [stk_len]; omega))).mono ?_
            rintro e w9 ⟨rfl, nq, rfl⟩
            have hJ : SoI w (World.drewN wr nq) g _ (d + 1) (cm) (cm) := SoI.drewN ⟨vs9, vc9, ho9, hr9, hdis9, hb9⟩ nq
            clear ho9 hr9 hdis9 hb9
            go_wp2
            go_roundw
            case rel => exact ⟨k + 1, d + 1, cm, by omega, by go_num, by omega, by first | rfl | go_num, by first | omega | (simp <;> omega), hJ⟩
            case measure => simp [intOf]; omega
          | false =>
            have HC := Lib.hid hct
            clear hct
            go_wp2_with fail
            refine (come_new g vs vc _ _ x _ _ ho hb.size (by omega) HC.out (by omega)).mono ?_
            rintro e w8 ⟨rfl, hgo⟩
            have hK : SoI w w8 g (.slice A8 cm.length c8) (d + 1) (cm ++ [x]) cm := SoI.go ho hr hdis hb hgo rfl (by simp)
            clear hgo hI ho hr hdis hb
            have hK2 := Lib.hid hK
            obtain ⟨vs7, vc7, ho7, hr7, hdis7, hb7⟩ := hK
            go_wp2_with fail
            refine (contains_is _ _ _ x cm _ _ (RD.of_row hr7) (by omega) HC.out).mono ?_
            rintro e w7 ⟨rfl, rfl⟩
            go_wp2_with (at_builtin; refine wpList_append_row _ rfl (.tmp 128) (.tmp 130) 30 rfl w.heap.size 3 i0 (.int .i64 0) 1 8 Try.underlying30 hi hz0 hz1 hz2 rfl (by decide) (.slice A8 cm.length c8) cm.length (cm.map (Value.int .i64)) rfl (hr7.alloc _) (w8.heap.size + 1) (some ⟨w8.heap.size, 0, none⟩) 1 1 [.int .i64 x] rfl (reads_one w8 (.int .i64 x) 3) (by simp [Value.oneCell']) (by unfold maxLen; omega) (by omega) (by have := hb7.size; simp; omega) ?_)
            intro A1 c1 w6 hr1 hg1 ho1
            have hK3 : SoI w w6 g _ (d + 1) (cm ++ [x]) (cm ++ [x]) := hK2.out.append hr1 hg1 (ho1.imp id (fun e => e.trans (by simp)))
            clear hr1 hg1 ho1 ho7 hr7 hdis7 hb7 hK2
            obtain ⟨vs9, vc9, ho9, hr9, hdis9, hb9⟩ := hK3
            go_wp2_with fail
            refine (on_is (b := false) (d := (d : Int) + 1) g vs9 vc9 _ _ _ _ _ ho9 (by simp <;> omega) (by first | (rw [stk_len]; done) | (rw [stk_len]; omega))).mono ?_
            rintro e w9 ⟨rfl, nq, rfl⟩
            have hJ : SoI w (World.drewN w6 nq) g _ (d + 1) (cm ++ [x]) (cm ++ [x]) := SoI.drewN ⟨vs9, vc9, ho9, hr9, hdis9, hb9⟩ nq
            clear ho9 hr9 hdis9 hb9
            go_wp2
            go_roundw
            case rel => exact ⟨k + 1, d + 1, cm ++ [x], by omega, by go_num, by omega, by first | rfl | go_num, by first | omega | (simp <;> omega), hJ⟩
            case measure => simp [intOf]; omega
        have e3 : (y == 3) = false := by simpa using hy3
        clear ho hr hdis
        obtain ⟨vs9, vc9, ho9, hr9, hdis9, hb9⟩ := hI
        go_wp2_with fail
        refine (on_is (b := false) (d := (d : Int) + 1) g vs9 vc9 _ _ _ _ _ ho9 (by simp <;> omega) (by first | (rw [stk_len]; done) | (rw [stk_len]; omega))).mono ?_
        rintro e w9 ⟨rfl, nq, rfl⟩
        have hJ : SoI w (World.drewN wr nq) g _ (d + 1) (cm) (cm) := SoI.drewN ⟨vs9, vc9, ho9, hr9, hdis9, hb9⟩ nq
        clear ho9 hr9 hdis9 hb9
        go_wp2
        go_roundw
        case rel => exact ⟨k + 1, d + 1, cm, by omega, by go_num, by omega, by first | rfl | go_num, by first | omega | (simp <;> omega), hJ⟩
        case measure => simp [intOf]; omega
    · obtain rfl : k = n := by omega
      go_wp2
      go_ret
      exact ⟨rfl, hb⟩
end Go.Proofs.Ytjcbnanajelpjaa
