/- The law ringlaw1.SemPlays. -/
import Derived.Test.YtjcbnanajelpjaaSmA
namespace Go.Proofs.Ytjcbnanajelpjaa
open Go.RowKit
set_option maxHeartbeats 400000
set_option linter.unusedVariables false
set_option linter.unusedSimpArgs false
def taskB (x : Int) : Bool := decide (1 ≤ x) && decide (x ≤ 16)
theorem within_any (x a b : Int) (w : World) : Calls Try.prog 67 #[.int .i64 x, .int .i64 a, .int .i64 b] w fun e w' => e = .returned (.bool (decide (a ≤ x) && decide (x ≤ b))) ∧ w = w' := by
  by_cases h : a ≤ x
  · have d : decide (a ≤ x) = true := by simpa using h
    go_enter Try.func67, Try.ntmps67
    go_wp2
    go_ret
    exact ⟨sl_bool (by simp [h]), rfl⟩
  · have d : decide (a ≤ x) = false := by simpa using h
    go_enter Try.func67, Try.ntmps67
    go_wp2
    go_ret
    exact ⟨sl_bool (by simp [h]), rfl⟩
theorem task_any (x : Int) (w : World) : Calls Try.prog 47 #[.int .i64 x] w fun e w' => e = .returned (.bool (taskB x)) ∧ w = w' := by
  go_enter Try.func47, Try.ntmps47
  go_wp2_with fail
  refine (within_any x 1 16 _).mono ?_
  rintro e w' ⟨rfl, rfl⟩
  have h := Lib.hid (show (decide (1 ≤ x) && decide (x ≤ 16)) = taskB x from rfl)
  generalize (decide (1 ≤ x) && decide (x ≤ 16)) = b at *
  go_wp2
  go_ret
  exact ⟨sl_bool h.out, rfl⟩
theorem task_is {b : Bool} (x : Int) (w : World) (h : taskB x = b) : Calls Try.prog 47 #[.int .i64 x] w fun e w' => e = .returned (.bool b) ∧ w = w' := h ▸ task_any x w
/-- Between two plays: the semaphore at g, the law's own row v9. -/
def SmI (w wr : World) (g : Nat) (v9 : Value) (n : Int) (rowo rowl : List Int) : Prop :=
  ∃ vr, SemSt wr w.heap.size g vr n rowo ∧ Row wr w.heap.size 3 1 v9 rowl.length (rowl.map (Value.int .i64)) ∧ (∀ k, v9.ownBlock = some k → ¬ SemF g vr k) ∧ Below w.heap.size w wr
theorem SmI.go {w wr w' : World} {g : Nat} {v9 vr : Value} {n n' : Int} {rowo rowl row' : List Int} (ho : SemSt wr w.heap.size g vr n rowo) (hr : Row wr w.heap.size 3 1 v9 rowl.length (rowl.map (Value.int .i64)))
    (hd : ∀ k, v9.ownBlock = some k → ¬ SemF g vr k) (hb : Below w.heap.size w wr) (hgo : SemGo wr w.heap.size g vr n' row' w') : SmI w w' g v9 n' row' rowl := by
  obtain ⟨vr', h1, h2, h3⟩ := hgo
  refine ⟨vr', h1, hr.fr h2 hd, fun k hk hf => ?_, hb.trans (h2.below hb.size ho.lowF)⟩
  rcases h3 k hf with h4 | h4
  · exact hd k hk h4
  · have := (hr.lt k hk).2; omega
theorem SmI.grow {w wr wr' : World} {g : Nat} {v9 : Value} {n : Int} {rowo rowl : List Int} (h : SmI w wr g v9 n rowo rowl) (hb : Below wr.heap.size wr wr') : SmI w wr' g v9 n rowo rowl := by
  obtain ⟨vr, h1, h2, h3, h4⟩ := h
  exact ⟨vr, h1.keep (Fr.of_grow hb) (fun _ _ h => h), h2.fr (Fr.of_grow hb) (fun _ _ h => h), h3, h4.trans (hb.mono h4.size)⟩
theorem SmI.drewN {w wr : World} {g : Nat} {v9 : Value} {n : Int} {rowo rowl : List Int} (h : SmI w wr g v9 n rowo rowl) (k : Nat) : SmI w (wr.drewN k) g v9 n rowo rowl := h.grow (sl_below_drewN (Below.refl _ _) k)
theorem SmI.append {w wr w1 : World} {g : Nat} {v9 v8 : Value} {n : Int} {rowo rowl : List Int} {x : Int} {X : Obj} (h : SmI w wr g v9 n rowo rowl) (hr : Row w1 w.heap.size 3 1 v8 (rowl.length + 1) (rowl.map (Value.int .i64) ++ [.int .i64 x]))
    (hg : (wr.alloc X).grownBy w1 v9.ownBlock) (ho : v8.ownBlock = v9.ownBlock ∨ v8.ownBlock = some (wr.heap.size + 1)) : SmI w w1 g v8 n rowo (rowl ++ [x]) := by
  obtain ⟨vr, h1, h2, h3, h4⟩ := h
  have hfr : Fr (fun k => v9.ownBlock = some k) wr w1 := ((Fr.refl _ wr).alloc X).grown hg (fun k e _ => e)
  refine ⟨vr, h1.keep hfr (fun k hk e => h3 k e hk), by simpa using hr, fun k hk hf => ?_, h4.trans (hfr.below h4.size (fun k e => (h2.lt k e).1))⟩
  rcases own_cases ho hk with h5 | rfl
  · exact h3 k h5 hf
  · have := h1.ltF _ hf
    omega
theorem SmI.cut {w wr : World} {g b o c : Nat} {n : Int} {t : Int} {rowo row : List Int} (h : SmI w wr g (.slice (some ⟨b, o, none⟩) (row.length + 1) c) n rowo (t :: row)) : SmI w wr g (.slice (if c = 1 then some ⟨b, o, none⟩ else some ⟨b, o + 1, none⟩) row.length (c - 1)) n rowo row := by
  obtain ⟨vr, h1, h2, h3, h4⟩ := h
  have := cut_addr (n := row.length) h2
  refine ⟨vr, h1, by simpa using this, fun k hk => h3 k (by rw [← hk]; split <;> rfl), h4⟩
theorem SmI.start (w wr : World) (n : Int) (hb : Below w.heap.size w wr) : SmI w (wr.alloc (.cells #[.int .i64 n, .slice none 0 0] 122)) wr.heap.size (.slice none 0 0) n [] [] :=
  ⟨_, sem_new wr w.heap.size n hb.size, Row.nil _ _ _ _, fun k hk => by simp [Value.ownBlock] at hk, hb.alloc hb.size _⟩
set_option maxHeartbeats 16000000 in
set_option maxRecDepth 100000 in
theorem law_semPlays (m : Int) (A : Option Addr) (n c : Nat) (ps : List Pl) (w : World) (h : RPl w w.heap.size A n ps) (hn : n ≤ 5864062014634) (hm : -9223372036854775808 ≤ m ∧ m ≤ 9223372036854775807) :
    Calls Try.prog 8 #[.int .i64 m, .slice A n c] w fun e w' => e = .returned (.bool true) ∧ Below w.heap.size w w' := by
  obtain ⟨i0, hi, hz0, hz1, hz2⟩ := info_parts Try.infoInt
  go_enter Try.func8, Try.ntmps8
  go_wp2_with fail
  refine (newSem_ok 1 _ (by omega)).mono ?_
  rintro e w0 ⟨rfl, rfl⟩
  have h0 := sem_new w w.heap.size 1 (Nat.le_refl _)
  go_wp2_with fail
  refine (down_pos w.heap.size _ _ _ 1 _ w.heap.size h0 (by omega) rfl (by simp) (by omega)).mono ?_
  rintro e w1 ⟨rfl, vr1, ho1, hf1, hF1⟩
  have hb1 : Below w.heap.size w w1 := ((Below.refl _ _).alloc (Nat.le_refl _) _).trans (hf1.below (by simp) h0.lowF)
  clear h0 hf1 hF1
  go_wp2_with fail
  refine (down_wait w.heap.size vr1 _ _ 1 _ w.heap.size ho1 hb1.size (by omega) rfl (by simp) (by omega)).mono ?_
  rintro e w2 ⟨rfl, vr2, ho2, hf2, hF2⟩
  have hb2 : Below w.heap.size w w2 := hb1.trans (hf2.below hb1.size ho1.lowF)
  clear ho1 ho2 hf2 hF2 hb1
  by_cases hm0 : m < 0
  · have d : decide (m < 0) = true := by simpa using hm0
    go_wp2_with fail
    refine (newSem_bad m _ (.inl hm0)).mono ?_
    rintro e w3 ⟨rfl, rfl⟩
    go_wp2
    go_ret
    exact ⟨rfl, hb2⟩
  have d : decide (m < 0) = false := by simpa using hm0
  by_cases hm1 : 1000 < m
  · have d' : decide (1000 < m) = true := by simpa using hm1
    go_wp2_with fail
    refine (newSem_bad m _ (.inr hm1)).mono ?_
    rintro e w3 ⟨rfl, rfl⟩
    go_wp2
    go_ret
    exact ⟨rfl, hb2⟩
  have d' : decide (1000 < m) = false := by simpa using hm1
  go_wp2_with fail
  refine (newSem_ok m _ (by omega)).mono ?_
  rintro e w3 ⟨rfl, rfl⟩
  have hI0 := SmI.start w w2 m hb2
  clear hb2
  generalize w2.alloc (.cells #[.int .i64 m, .slice none 0 0] 122) = w3 at *
  generalize w2.heap.size = g at *
  go_wp2_with fail
  clear d d'
  go_loopw [0, 9, 65] (fun nn v9 i wr => ∃ (k : Nat) (j : Int) (row : List Int), k ≤ n ∧ i = .int .i64 k ∧ 0 ≤ j ∧ j ≤ 1000 ∧ nn = .int .i64 j ∧ row.length ≤ k ∧ SmI w wr g v9 j row row) (fun _ _ i _ => n - (intOf i).toNat)
  case atStart => exact ⟨0, m, [], by omega, rfl, by omega, by omega, rfl, by simp, hI0⟩
  case round =>
    clear hI0
    obtain ⟨k, j, row, hk, rfl, hj0, hj1, rfl, hrow, hI⟩ := hrel
    have HI := Lib.hid hI
    obtain ⟨vr, ho, hr, hdis, hb⟩ := hI
    obtain ⟨A9, c9, rfl, hc91, hc92⟩ := hr.shape
    by_cases hlt : k < n
    · obtain ⟨b, o, rfl, hbB, hcell, hfine⟩ := (h.below' hb (Nat.le_refl _)).at_ hlt
      generalize ps.getD k .zero = p at *
      obtain ⟨Ap, np, cp, xs⟩ := p
      obtain ⟨hri, hnp⟩ := hfine
      dsimp only at hcell hri hnp
      have hkn : (k : Int) < n := by omega
      have hbw : b < wr.heap.size := by have := hb.size; omega
      have hx1 := i64_range (RI.rng hri 1 (by decide))
      go_wp2_with fail
      refine (at_any Ap np cp xs 1 _ _ (RD.of_ri hri) hnp (by omega)).mono ?_
      rintro e w4 ⟨rfl, rfl⟩
      generalize xs.getD 1 0 = x at *
      go_wp2_with fail
      refine (at_any Ap np cp xs 0 _ _ (RD.of_ri hri) hnp (by omega)).mono ?_
      rintro e w4 ⟨rfl, rfl⟩
      generalize xs.getD 0 0 = y at *
      by_cases hy1 : y = 1
      · have HY := Lib.hid hy1
        have e1 : (y == 1) = true := by simpa using hy1
        clear hy1
        cases ht : taskB x with
        | false =>
          have hx := Lib.hid (show x < 1 ∨ 16 < x by unfold taskB at ht; simp at ht; omega)
          have HT := Lib.hid ht
          clear ht
          go_wp2_with fail
          refine (task_is x _ HT.out).mono ?_
          rintro e w8 ⟨rfl, rfl⟩
          go_wp2_with fail
          refine (down_bad g x _ hx.out).mono ?_
          rintro e w8 ⟨rfl, rfl⟩
          clear ho hr hdis
          have HJ := Lib.hid (HI.out)
          obtain ⟨vr9, ho9, hr9, hdis9, hb9⟩ := HJ.out
          go_wp2_with fail
          refine (count_any g vr9 _ _ _ _ ho9 (by first | omega | (simp <;> omega))).mono ?_
          rintro e w9 ⟨v, rfl, hr8, hb8⟩
          obtain ⟨A6, c6, rfl, hc61, hc62⟩ := hr8.shape
          try simp only [List.length_append, List.length_cons, List.length_nil, Nat.zero_add] at hr8
          have hr7 := hr9.grow hb8
          have dq : ∀ z : Int, (z != z) = false := fun z => by simp
          go_wp2_with fail
          refine (equal_any _ _ _ _ _ _ (row) (row) _ _ _ (RD.of_row' hr8) (RD.of_row' hr7) (Nat.le_refl _) (Nat.le_refl _) (by first | omega | (simp <;> omega)) (by first | omega | (simp <;> omega))).mono ?_
          rintro e w7 ⟨rfl, hb7⟩
          rw [decide_eq_true rfl]
          have hJ := (HJ.out.grow hb8).grow hb7
          clear ho9 hr9 hdis9 hb9 hr8 hb8 hr7 hb7 HJ
          go_wp2
          go_roundw
          case rel => exact ⟨k + 1, j, row, by omega, by go_num, by omega, by omega, by first | rfl | go_num, by first | omega | (simp <;> omega), hJ⟩
          case measure => simp [intOf]; omega
        | true =>
          have hx := Lib.hid (show 1 ≤ x ∧ x ≤ 16 by unfold taskB at ht; simp at ht; omega)
          have HT := Lib.hid ht
          clear ht
          cases hct : row.contains x with
          | true =>
            have HC := Lib.hid hct
            clear hct
            go_wp2_with fail
            refine (task_is x _ HT.out).mono ?_
            rintro e w8 ⟨rfl, rfl⟩
            go_wp2_with fail
            refine (contains_is _ _ _ x row _ _ (RD.of_row hr) (by omega) HC.out).mono ?_
            rintro e w8 ⟨rfl, rfl⟩
            go_wp2_with fail
            refine (down_has g vr _ _ x _ _ ho hx.out HC.out (by omega)).mono ?_
            rintro e w8 ⟨rfl, rfl⟩
            clear ho hr hdis
            have HJ := Lib.hid (HI.out)
            obtain ⟨vr9, ho9, hr9, hdis9, hb9⟩ := HJ.out
            go_wp2_with fail
            refine (count_any g vr9 _ _ _ _ ho9 (by first | omega | (simp <;> omega))).mono ?_
            rintro e w9 ⟨v, rfl, hr8, hb8⟩
            obtain ⟨A6, c6, rfl, hc61, hc62⟩ := hr8.shape
            try simp only [List.length_append, List.length_cons, List.length_nil, Nat.zero_add] at hr8
            have hr7 := hr9.grow hb8
            have dq : ∀ z : Int, (z != z) = false := fun z => by simp
            go_wp2_with fail
            refine (equal_any _ _ _ _ _ _ (row) (row) _ _ _ (RD.of_row' hr8) (RD.of_row' hr7) (Nat.le_refl _) (Nat.le_refl _) (by first | omega | (simp <;> omega)) (by first | omega | (simp <;> omega))).mono ?_
            rintro e w7 ⟨rfl, hb7⟩
            rw [decide_eq_true rfl]
            have hJ := (HJ.out.grow hb8).grow hb7
            clear ho9 hr9 hdis9 hb9 hr8 hb8 hr7 hb7 HJ
            go_wp2
            go_roundw
            case rel => exact ⟨k + 1, j, row, by omega, by go_num, by omega, by omega, by first | rfl | go_num, by first | omega | (simp <;> omega), hJ⟩
            case measure => simp [intOf]; omega
          | false =>
            have HC := Lib.hid hct
            clear hct
            by_cases hjp : 0 < j
            · have dj : decide (0 < j) = true := by simpa using hjp
              go_wp2_with fail
              refine (task_is x _ HT.out).mono ?_
              rintro e w8 ⟨rfl, rfl⟩
              go_wp2_with fail
              refine (contains_is _ _ _ x row _ _ (RD.of_row hr) (by omega) HC.out).mono ?_
              rintro e w8 ⟨rfl, rfl⟩
              go_wp2_with fail
              refine (down_pos g vr _ _ x _ _ ho hx.out HC.out (by omega) (by omega)).mono ?_
              rintro e w8 ⟨rfl, hgo⟩
              have hK := SmI.go ho hr hdis hb hgo
              clear hgo HI ho hr hdis hb
              have HJ := Lib.hid (hK)
              obtain ⟨vr9, ho9, hr9, hdis9, hb9⟩ := HJ.out
              go_wp2_with fail
              refine (count_any g vr9 _ _ _ _ ho9 (by first | omega | (simp <;> omega))).mono ?_
              rintro e w9 ⟨v, rfl, hr8, hb8⟩
              obtain ⟨A6, c6, rfl, hc61, hc62⟩ := hr8.shape
              try simp only [List.length_append, List.length_cons, List.length_nil, Nat.zero_add] at hr8
              have hr7 := hr9.grow hb8
              have dq : ∀ z : Int, (z != z) = false := fun z => by simp
              go_wp2_with fail
              refine (equal_any _ _ _ _ _ _ (row) (row) _ _ _ (RD.of_row' hr8) (RD.of_row' hr7) (Nat.le_refl _) (Nat.le_refl _) (by first | omega | (simp <;> omega)) (by first | omega | (simp <;> omega))).mono ?_
              rintro e w7 ⟨rfl, hb7⟩
              rw [decide_eq_true rfl]
              have hJ := (HJ.out.grow hb8).grow hb7
              clear ho9 hr9 hdis9 hb9 hr8 hb8 hr7 hb7 HJ
              go_wp2
              go_roundw
              case rel => exact ⟨k + 1, j - 1, row, by omega, by go_num, by omega, by omega, by first | rfl | go_num, by first | omega | (simp <;> omega), hJ⟩
              case measure => simp [intOf]; omega
            · have dj : decide (0 < j) = false := by simpa using hjp
              go_wp2_with fail
              refine (task_is x _ HT.out).mono ?_
              rintro e w8 ⟨rfl, rfl⟩
              go_wp2_with fail
              refine (contains_is _ _ _ x row _ _ (RD.of_row hr) (by omega) HC.out).mono ?_
              rintro e w8 ⟨rfl, rfl⟩
              go_wp2_with (at_builtin; refine wpList_append_row _ rfl (.tmp 75) (.tmp 77) 30 rfl w.heap.size 3 i0 (.int .i64 0) 1 8 Try.underlying30 hi hz0 hz1 hz2 rfl (by decide) (.slice A9 row.length c9) row.length (row.map (Value.int .i64)) rfl (hr.alloc _) (wr.heap.size + 1) (some ⟨wr.heap.size, 0, none⟩) 1 1 [.int .i64 x] rfl (reads_one wr (.int .i64 x) 3) (by simp [Value.oneCell']) (by unfold maxLen; omega) (by omega) (by have := hb.size; simp; omega) ?_)
              intro A1 c1 w6 hr1 hg1 ho1
              have hK : SmI w w6 g _ j row (row ++ [x]) := HI.out.append hr1 hg1 (ho1.imp id (fun e => e.trans (by simp)))
              clear hr1 hg1 ho1 ho hr hdis hb HI
              obtain ⟨vr6, ho6, hr6, hdis6, hb6⟩ := hK
              go_wp2_with fail
              refine (down_wait g vr6 _ _ x _ _ ho6 hb6.size hx.out HC.out (by omega) (by omega)).mono ?_
              rintro e w8 ⟨rfl, hgo⟩
              have hK := SmI.go ho6 hr6 hdis6 hb6 hgo
              clear hgo ho6 hr6 hdis6 hb6
              have HJ := Lib.hid (hK)
              obtain ⟨vr9, ho9, hr9, hdis9, hb9⟩ := HJ.out
              go_wp2_with fail
              refine (count_any g vr9 _ _ _ _ ho9 (by first | omega | (simp <;> omega))).mono ?_
              rintro e w9 ⟨v, rfl, hr8, hb8⟩
              obtain ⟨A6, c6, rfl, hc61, hc62⟩ := hr8.shape
              try simp only [List.length_append, List.length_cons, List.length_nil, Nat.zero_add] at hr8
              have hr7 := hr9.grow hb8
              have dq : ∀ z : Int, (z != z) = false := fun z => by simp
              go_wp2_with fail
              refine (equal_any _ _ _ _ _ _ (row ++ [x]) (row ++ [x]) _ _ _ (RD.of_row' hr8) (RD.of_row' hr7) (Nat.le_refl _) (Nat.le_refl _) (by first | omega | (simp <;> omega)) (by first | omega | (simp <;> omega))).mono ?_
              rintro e w7 ⟨rfl, hb7⟩
              rw [decide_eq_true rfl]
              have hJ := (HJ.out.grow hb8).grow hb7
              clear ho9 hr9 hdis9 hb9 hr8 hb8 hr7 hb7 HJ
              go_wp2
              go_roundw
              case rel => exact ⟨k + 1, j, row ++ [x], by omega, by go_num, by omega, by omega, by first | rfl | go_num, by first | omega | (simp <;> omega), hJ⟩
              case measure => simp [intOf]; omega
      have e1 : (y == 1) = false := by simpa using hy1
      by_cases hy2 : y = 2
      · have HY := Lib.hid hy2
        have e2 : (y == 2) = true := by simpa using hy2
        clear hy1 hy2
        rcases row with _ | ⟨t, row⟩
        · by_cases hjm : j = 1000
          · subst hjm
            go_wp2_with fail
            refine (up_full g vr _ _ ho).mono ?_
            rintro e w8 ⟨rfl, rfl⟩
            clear ho hr hdis
            have HJ := Lib.hid (HI.out)
            obtain ⟨vr9, ho9, hr9, hdis9, hb9⟩ := HJ.out
            go_wp2_with fail
            refine (count_any g vr9 _ _ _ _ ho9 (by first | omega | (simp <;> omega))).mono ?_
            rintro e w9 ⟨v, rfl, hr8, hb8⟩
            obtain ⟨A6, c6, rfl, hc61, hc62⟩ := hr8.shape
            try simp only [List.length_append, List.length_cons, List.length_nil, Nat.zero_add] at hr8
            have hr7 := hr9.grow hb8
            have dq : ∀ z : Int, (z != z) = false := fun z => by simp
            go_wp2_with fail
            refine (equal_any _ _ _ _ _ _ ([]) ([]) _ _ _ (RD.of_row' hr8) (RD.of_row' hr7) (Nat.le_refl _) (Nat.le_refl _) (by first | omega | (simp <;> omega)) (by first | omega | (simp <;> omega))).mono ?_
            rintro e w7 ⟨rfl, hb7⟩
            rw [decide_eq_true rfl]
            have hJ := (HJ.out.grow hb8).grow hb7
            clear ho9 hr9 hdis9 hb9 hr8 hb8 hr7 hb7 HJ
            go_wp2
            go_roundw
            case rel => exact ⟨k + 1, 1000, [], by omega, by go_num, by omega, by omega, by first | rfl | go_num, by first | omega | (simp <;> omega), hJ⟩
            case measure => simp [intOf]; omega
          · have dj : (j == 1000) = false := by simpa using hjm
            go_wp2_with fail
            refine (up_more g vr _ _ _ ho (by omega)).mono ?_
            rintro e w8 ⟨rfl, hgo⟩
            have hK := SmI.go ho hr hdis hb hgo
            clear hgo HI ho hr hdis hb
            have HJ := Lib.hid (hK)
            obtain ⟨vr9, ho9, hr9, hdis9, hb9⟩ := HJ.out
            go_wp2_with fail
            refine (count_any g vr9 _ _ _ _ ho9 (by first | omega | (simp <;> omega))).mono ?_
            rintro e w9 ⟨v, rfl, hr8, hb8⟩
            obtain ⟨A6, c6, rfl, hc61, hc62⟩ := hr8.shape
            try simp only [List.length_append, List.length_cons, List.length_nil, Nat.zero_add] at hr8
            have hr7 := hr9.grow hb8
            have dq : ∀ z : Int, (z != z) = false := fun z => by simp
            go_wp2_with fail
            refine (equal_any _ _ _ _ _ _ ([]) ([]) _ _ _ (RD.of_row' hr8) (RD.of_row' hr7) (Nat.le_refl _) (Nat.le_refl _) (by first | omega | (simp <;> omega)) (by first | omega | (simp <;> omega))).mono ?_
            rintro e w7 ⟨rfl, hb7⟩
            rw [decide_eq_true rfl]
            have hJ := (HJ.out.grow hb8).grow hb7
            clear ho9 hr9 hdis9 hb9 hr8 hb8 hr7 hb7 HJ
            go_wp2
            go_roundw
            case rel => exact ⟨k + 1, j + 1, [], by omega, by go_num, by omega, by omega, by first | rfl | go_num, by first | omega | (simp <;> omega), hJ⟩
            case measure => simp [intOf]; omega
        · simp only [List.length_cons] at hrow hc91 hr HI hdis ⊢
          go_wp2_with fail
          refine (up_row g vr _ t row _ _ ho hb.size (by omega)).mono ?_
          rintro e w8 ⟨rfl, hgo⟩
          have hK := SmI.go ho hr hdis hb hgo
          clear hgo HI ho hr hdis hb
          have HK := Lib.hid hK
          obtain ⟨vr6, ho6, hr6, hdis6, hb6⟩ := hK
          obtain ⟨b9, o9, u, e9, hb99, hx9, hcell9⟩ := Reads.at_ (k := 0) hr6.reads (by simp)
          have hu : u = .int .i64 t := by simpa using hx9.symm
          subst hu
          subst e9
          clear hx9
          rw [Nat.add_zero] at hcell9
          have dpos : decide (0 < (row.length : Int) + 1) = true := by simp <;> omega
          have hC := HK.out.cut
          clear HK ho6 hr6 hdis6 hb6
          generalize hA : (if c9 = 1 then some (⟨b9, o9, none⟩ : Addr) else some ⟨b9, o9 + 1, none⟩) = A8 at hC
          go_wp2
          go_quiet (fail)
          have hC2 := hC.drewN nq
          clear hC hA
          have HJ := Lib.hid (hC2)
          obtain ⟨vr9, ho9, hr9, hdis9, hb9⟩ := HJ.out
          go_wp2_with fail
          refine (count_any g vr9 _ _ _ _ ho9 (by first | omega | (simp <;> omega))).mono ?_
          rintro e w9 ⟨v, rfl, hr8, hb8⟩
          obtain ⟨A6, c6, rfl, hc61, hc62⟩ := hr8.shape
          try simp only [List.length_append, List.length_cons, List.length_nil, Nat.zero_add] at hr8
          have hr7 := hr9.grow hb8
          have dq : ∀ z : Int, (z != z) = false := fun z => by simp
          go_wp2_with fail
          refine (equal_any _ _ _ _ _ _ (row) (row) _ _ _ (RD.of_row' hr8) (RD.of_row' hr7) (Nat.le_refl _) (Nat.le_refl _) (by first | omega | (simp <;> omega)) (by first | omega | (simp <;> omega))).mono ?_
          rintro e w7 ⟨rfl, hb7⟩
          rw [decide_eq_true rfl]
          have hJ := (HJ.out.grow hb8).grow hb7
          clear ho9 hr9 hdis9 hb9 hr8 hb8 hr7 hb7 HJ
          go_wp2
          go_roundw
          case rel => exact ⟨k + 1, j, row, by omega, by go_num, by omega, by omega, by first | rfl | go_num, by first | omega | (simp <;> omega), hJ⟩
          case measure => simp [intOf]; omega
      have e2 : (y == 2) = false := by simpa using hy2
      clear ho hr hdis
      have HJ := Lib.hid (HI.out)
      obtain ⟨vr9, ho9, hr9, hdis9, hb9⟩ := HJ.out
      go_wp2_with fail
      refine (count_any g vr9 _ _ _ _ ho9 (by first | omega | (simp <;> omega))).mono ?_
      rintro e w9 ⟨v, rfl, hr8, hb8⟩
      obtain ⟨A6, c6, rfl, hc61, hc62⟩ := hr8.shape
      try simp only [List.length_append, List.length_cons, List.length_nil, Nat.zero_add] at hr8
      have hr7 := hr9.grow hb8
      have dq : ∀ z : Int, (z != z) = false := fun z => by simp
      go_wp2_with fail
      refine (equal_any _ _ _ _ _ _ (row) (row) _ _ _ (RD.of_row' hr8) (RD.of_row' hr7) (Nat.le_refl _) (Nat.le_refl _) (by first | omega | (simp <;> omega)) (by first | omega | (simp <;> omega))).mono ?_
      rintro e w7 ⟨rfl, hb7⟩
      rw [decide_eq_true rfl]
      have hJ := (HJ.out.grow hb8).grow hb7
      clear ho9 hr9 hdis9 hb9 hr8 hb8 hr7 hb7 HJ
      go_wp2
      go_roundw
      case rel => exact ⟨k + 1, j, row, by omega, by go_num, by omega, by omega, by first | rfl | go_num, by first | omega | (simp <;> omega), hJ⟩
      case measure => simp [intOf]; omega
    · obtain rfl : k = n := by omega
      go_wp2
      go_ret
      exact ⟨rfl, hb⟩
end Go.Proofs.Ytjcbnanajelpjaa
