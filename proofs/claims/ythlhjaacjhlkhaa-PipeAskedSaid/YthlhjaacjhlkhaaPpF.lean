/- Contract of the pipes' Read. -/
import Derived.Test.YthlhjaacjhlkhaaPpE
namespace Go.Proofs.Ythlhjaacjhlkhaa
open Go.RowKit
set_option maxHeartbeats 400000
set_option linter.unusedVariables false
set_option linter.unusedSimpArgs false
theorem read_fail {F : Fs} {id n : Int} (h : readE F id n ≠ 0) : readO F id n = [] ∧ readF F id n = F := by
  unfold readO readF
  rw [if_pos h, if_pos h]
  exact ⟨rfl, rfl⟩
theorem read_arg {F : Fs} {id n : Int} (h : n < 0 ∨ 256 < n) : readE F id n = 1 := by unfold readE; rw [if_pos h]
theorem read_err {F : Fs} {id n x : Int} (h : ¬ (n < 0 ∨ 256 < n)) (hx : errE F id 0 = x) (h0 : x ≠ 0) : readE F id n = x := by unfold readE; rw [if_neg h, if_pos (by rw [hx]; exact h0), hx]
theorem read_ok {F : Fs} {i : Nat} {n : Int} {p : Pp} (hn : ¬ (n < 0 ∨ 256 < n)) (hi : i < 16) (hp : F i = some p) (h : errE F ((i : Int) + 1) 0 = 0) :
    ((0 < n ∧ p.bs = [] ∧ 0 < p.w) ∧ readE F ((i : Int) + 1) n = 9) ∨ (¬ (0 < n ∧ p.bs = [] ∧ 0 < p.w) ∧ readE F ((i : Int) + 1) n = 0 ∧ readO F ((i : Int) + 1) n = p.bs.take n.toNat ∧ readF F ((i : Int) + 1) n = put F i (some { p with bs := p.bs.drop n.toNat })) := by
  have ha : at1 F ((i : Int) + 1) = some p := (at1_of hi).trans hp
  by_cases hh : 0 < n ∧ p.bs = [] ∧ 0 < p.w
  · exact .inl ⟨hh, by unfold readE; rw [if_neg hn, if_neg (by rw [h]; simp), ha]; exact if_pos hh⟩
  · have h1 : readE F ((i : Int) + 1) n = 0 := by unfold readE; rw [if_neg hn, if_neg (by rw [h]; simp), ha]; exact if_neg hh
    refine .inr ⟨hh, h1, ?_, ?_⟩
    · unfold readO; rw [if_neg (by rw [h1]; simp), ha]
    · unfold readF; rw [if_neg (by rw [h1]; simp), ha, show ((i : Int) + 1 - 1).toNat = i by omega]
def RetRd (W : World) (B g : Nat) (F : Fs) (b : Nat → Nat) (v : Nat → Value) (id n : Int) (e : Ending) (w' : World) : Prop :=
  ∃ A m c, e = .returned (.tuple #[.slice A m c, .int .i64 (readE F id n)]) ∧ Row w' W.heap.size 5 1 (.slice A m c) m ((readO F id n).map (Value.int .u8)) ∧ Byt (readO F id n) ∧ RGo W B g F b v (readF F id n) w'
theorem rd_bad {W w' : World} {B g : Nat} {F : Fs} {b : Nat → Nat} {v : Nat → Value} {id n x : Int} (hx : readE F id n = x) (h0 : x ≠ 0) (hG : RGo W B g F b v F w') : RetRd W B g F b v id n (.returned (.tuple #[.slice none 0 0, .int .i64 x])) w' := by
  obtain ⟨h1, h2⟩ := read_fail (F := F) (id := id) (n := n) (by rw [hx]; exact h0)
  exact ⟨none, 0, 0, by rw [hx], by rw [h1]; exact Row.nil _ _ _ _, by rw [h1]; intro y hy; simp at hy, by rw [h2]; exact hG⟩
theorem byt_take {xs : List Int} (h : Byt xs) (k : Nat) : Byt (xs.take k) := fun x hx => h x (List.mem_of_mem_take hx)
theorem byt_drop {xs : List Int} (h : Byt xs) (k : Nat) : Byt (xs.drop k) := fun x hx => h x (List.mem_of_mem_drop hx)
theorem take_min {α : Type} (xs : List α) (k : Nat) : xs.take k = xs.take (min k xs.length) := by
  rcases Nat.le_total k xs.length with h | h
  · rw [Nat.min_eq_left h]
  · rw [Nat.min_eq_right h, List.take_of_length_le h, List.take_length]
theorem drop_min {α : Type} (xs : List α) (k : Nat) : xs.drop k = xs.drop (min k xs.length) := by
  rcases Nat.le_total k xs.length with h | h
  · rw [Nat.min_eq_left h]
  · rw [Nat.min_eq_right h, List.drop_of_length_le h, List.drop_length]
theorem row_rb {w : World} {base n c : Nat} {A : Option Addr} {xs : List Int} (h : Row w base 5 1 (.slice A n c) n (xs.map (Value.int .u8))) (hb : Byt xs) : RB w w.heap.size A n xs := ⟨h.reads, hb⟩
section
variable {w : World} {B g : Nat} {F : Fs} {b : Nat → Nat} {v : Nat → Value} {i : Nat} {p : Pp}
set_option maxHeartbeats 2000000 in
set_option maxRecDepth 100000 in
theorem read_any (h : Re w B g F b v) (hB : B ≤ w.heap.size) (id n : Int) : Calls Try.prog 30 #[.pointer (some ⟨g, 0, none⟩), .int .i64 id, .int .i64 n] w (RetRd w B g F b v id n) := by
  have HP := Lib.hid h.refl
  by_cases hn : n < 0 ∨ 256 < n
  · have HE := Lib.hid (read_arg (F := F) (id := id) hn)
    clear h
    go_enter Try.func30, Try.ntmps30
    rcases hn with hn | hn
    · have hd : decide (n < 0) = true := by simpa using hn
      go_wp2
      go_ret2
      exact rd_bad HE.out (by decide) HP.out
    · have hd : decide (n < 0) = false := by simp; omega
      have hd2 : decide (256 < n) = true := by simpa using hn
      go_wp2
      go_ret2
      exact rd_bad HE.out (by decide) HP.out
  · have hd : decide (n < 0) = false := by simp; omega
    have hd2 : decide (256 < n) = false := by simp; omega
    by_cases h0 : errE F id 0 = 0
    · obtain ⟨i, p, hi, rfl, hp, he, hz, ha⟩ := errE_zero h0
      have HE := Lib.hid (end_ok h hi hp he hz)
      obtain ⟨o1, o2, o3, o4⟩ := h.ob i p hi hp
      obtain ⟨k1, k2, k3, k4, k5, k6⟩ := o4
      obtain ⟨A0, n0, hv0, hn0, hm0⟩ := o2.shape
      have c0 := o1.cell 0
      have c1 := o1.cell 1
      have c2 := o1.cell 2
      have f2 := o1.free 2
      have hl := o1.lt
      rw [hv0] at c2
      dsimp at c0 c1 c2
      rcases read_ok hn hi hp h0 with ⟨⟨hh1, hh2, hh3⟩, hr⟩ | ⟨hh, hr, hr2, hr3⟩
      · have HR := Lib.hid hr
        have hd3 : decide (0 < n) = true := by simpa using hh1
        have hd4 : decide (0 < p.w) = true := by simpa using hh3
        rw [hh2] at c2
        dsimp at c2
        clear h hp hn h0 ha hr hh1 hh2 hh3 hz o2
        go_enter Try.func30, Try.ntmps30
        go_wp2_with fail
        refine HE.out.mono ?_
        rintro x w' ⟨rfl, rfl⟩
        go_wp2
        go_ret2
        exact rd_bad HR.out (by decide) HP.out
      · obtain ⟨k, rfl⟩ : ∃ k : Nat, n = k := ⟨n.toNat, by omega⟩
        rw [Int.toNat_natCast] at hr2 hr3
        obtain ⟨bs, hbs⟩ : ∃ bs, p.bs = bs := ⟨_, rfl⟩
        rw [hbs] at hh hr2 hr3 k5 k6 o2 c2 hv0 hn0
        obtain ⟨m, hm⟩ : ∃ m, min k bs.length = m := ⟨_, rfl⟩
        rw [take_min, hm] at hr2
        rw [drop_min, hm] at hr3
        have hml : m ≤ bs.length := by omega
        have hmk : m ≤ k := by omega
        rw [hv0] at o2
        have hrow1 := o2.take (k := m) hml
        rw [Nat.mul_one, ← List.map_take] at hrow1
        have HC1 := Lib.hid (bclone_any A0 m n0 (bs.take m) w w.heap.size ⟨hrow1.reads, byt_take k6 m⟩ (Nat.le_refl _) (by omega))
        obtain ⟨A2, hsl, hrow2⟩ := row_cut_run Try.prog (t := 23) (e := 5) Try.underlying23 (by kernel_rfl) (fun W => by kernel_rfl) o2 m hml hn0
        rw [← List.map_drop] at hrow2
        have HSL : Hid (∀ W, (Instr.slice 23 (.slice A0 bs.length n0) (some (.int .i64 (m : Int))) none none).run Try.prog W = .ok (.slice A2 (bs.length - m) (n0 - m)) W) := Lib.hid hsl
        have HC2 := Lib.hid (fun w1 (hb : Below w.heap.size w w1) => bclone_any A2 (bs.length - m) (n0 - m) (bs.drop m) w1 w.heap.size ⟨hrow2.reads.below' hb (Nat.le_refl _), byt_drop k6 m⟩ hb.size (by omega))
        have HO := Lib.hid (fun w' (hb : Below w.heap.size w w') => o1.fr (Fr.of_grow hb) id)
        have HFIN : Hid (∀ w2 x, Below w.heap.size w w2 → Row w2 w.heap.size 5 1 x (bs.length - m) ((bs.drop m).map (Value.int .u8)) → RGo w B g F b v (put F i (some { p with bs := bs.drop m })) (w2.setCell ⟨b i, 2, none⟩ x)) := Lib.hid (fun w2 x hb2 hrx => by
          have hf : Fr (fun k => k = b i) w (w2.setCell ⟨b i, 2, none⟩ x) := Fr.setCell (S := fun k => k = b i) ((Fr.of_grow hb2).mono (fun _ _ e => e.elim)) (p := ⟨b i, 2, none⟩) (fun _ => rfl) x
          have hlx := hrx.lt
          have hlb := o1.lt
          refine h.put hi hp (x := x) (p' := { p with bs := bs.drop m }) (hf.mono fun k _ e => .inl e) ?_ ?_ (fun k hk => .inr (hlx k hk).1) ⟨k1, k2, k3, k4, by dsimp only; rw [List.length_drop]; omega, byt_drop k6 m⟩
          · have := (o1.fr (Fr.of_grow hb2) id).set 2 x
            simpa using this
          · dsimp only
            rw [List.length_drop]
            exact ((hrx.base_le hB).setCell (p := ⟨b i, 2, none⟩) (fun e => by have := (hlx _ e).1; have : b i < w.heap.size := hlb; simp at *; omega) _))
        have HRO := Lib.hid hr2
        have HRF := Lib.hid hr3
        have HR := Lib.hid hr
        have HBT := Lib.hid (byt_take k6 m)
        have hk256 : k ≤ 256 := by omega
        have hmin : min (k : Int) (bs.length : Int) = m := by omega
        have HM := Lib.hid hm
        have HLN := Lib.hid k5
        have hmn : (m : Int) ≤ n0 := by omega
        have hmn' : m ≤ n0 := by omega
        have hw3 : p.w = 0 ∨ 0 < p.w := by omega
        have HV0 := Lib.hid hv0
        have HBI : Hid (b i < w.heap.size) := Lib.hid o1.lt
        clear h hp hn h0 ha hr hr2 hr3 hz o2 o1 hrow1 hrow2 hsl hd2 hd k5 k6 hv0
        rcases (by omega : k = 0 ∨ 0 < k) with hk0 | hk0
        · have hk0' : ¬ 0 < k := by omega
          clear hk0
          go_enter Try.func30, Try.ntmps30
          go_wp2_with fail
          refine HE.out.mono ?_
          rintro x w' ⟨rfl, rfl⟩
          go_wp2_with (refine wpList_min _ rfl (.tmp 46) (.tmp 51) 3 3 rfl (k : Int) (bs.length : Int) (m : Int) rfl rfl hmin ?_)
          go_wp2_with fail
          refine HC1.out.mono ?_
          rintro e w1 ⟨v1, rfl, hr1, hb1⟩
          obtain ⟨A1, e1, rfl, -, -⟩ := hr1.shape
          have hB1 := HO.out w1 hb1
          clear c0 c1 c2 f2 hl
          have c2 := hB1.cell 2
          have hl := hB1.lt
          dsimp at c2
          rw [HV0.out] at c2
          go_wp2_with (refine wpList_slice_lo rfl 23 5 (.tmp 64) (.tmp 65) rfl Try.underlying23 _ _ rfl rfl _ (HSL.out _) ?_)
          go_wp2_with fail
          refine (HC2.out w1 hb1).mono ?_
          rintro e w2 ⟨v2, rfl, hr2, hb2⟩
          obtain ⟨A9, e9, rfl, -, -⟩ := hr2.shape
          have hb12 := hb1.trans (hb2.mono hb1.size)
          have hB2 := HO.out w2 hb12
          clear c2 hl hB1
          have c2 := hB2.cell 2
          have f2 := hB2.free 2
          have hl := hB2.lt
          dsimp at c2
          have HG := Lib.hid (HFIN.out w2 _ hb12 (hr2.base_le hb1.size))
          have hR1 := Lib.hid ((hr1.grow hb2).setCell (p := ⟨b i, 2, none⟩) (fun e => by have := (hr1.lt _ e).1; have := HBI.out; simp at *; omega) (.slice A9 (bs.length - m) e9))
          clear hr1 hr2 hB2
          go_wp2
          go_ret2
          exact ⟨A1, m, e1, by rw [HR.out]; rfl, by rw [HRO.out]; exact hR1.out, by rw [HRO.out]; exact HBT.out, by rw [HRF.out]; exact HG.out⟩
        · by_cases hb0 : bs.length = 0
          · have hw0 : p.w = 0 := by
              rcases hw3 with e | e
              · exact e
              · exact absurd ⟨by omega, List.eq_nil_of_length_eq_zero hb0, e⟩ hh
            rw [hw0] at c1
            rw [hb0] at c2 HV0 HSL hmin HC2 hml HFIN
            obtain rfl : m = 0 := by omega
            clear hb0 hw0 hw3 hh
            go_enter Try.func30, Try.ntmps30
            go_wp2_with fail
            refine HE.out.mono ?_
            rintro x w' ⟨rfl, rfl⟩
            go_wp2_with (refine wpList_min _ rfl (.tmp 46) (.tmp 51) 3 3 rfl (k : Int) (0 : Int) ((0 : Nat) : Int) rfl rfl hmin ?_)
            go_wp2_with fail
            refine HC1.out.mono ?_
            rintro e w1 ⟨v1, rfl, hr1, hb1⟩
            obtain ⟨A1, e1, rfl, -, -⟩ := hr1.shape
            have hB1 := HO.out w1 hb1
            clear c0 c1 c2 f2 hl
            have c2 := hB1.cell 2
            have hl := hB1.lt
            dsimp at c2
            rw [HV0.out] at c2
            go_wp2_with (refine wpList_slice_lo rfl 23 5 (.tmp 64) (.tmp 65) rfl Try.underlying23 _ _ rfl rfl _ (HSL.out _) ?_)
            go_wp2_with fail
            refine (HC2.out w1 hb1).mono ?_
            rintro e w2 ⟨v2, rfl, hr2, hb2⟩
            obtain ⟨A9, e9, rfl, -, -⟩ := hr2.shape
            have hb12 := hb1.trans (hb2.mono hb1.size)
            have hB2 := HO.out w2 hb12
            clear c2 hl hB1
            have c2 := hB2.cell 2
            have f2 := hB2.free 2
            have hl := hB2.lt
            dsimp at c2
            have HG := Lib.hid (HFIN.out w2 _ hb12 (hr2.base_le hb1.size))
            have hR1 := Lib.hid ((hr1.grow hb2).setCell (p := ⟨b i, 2, none⟩) (fun e => by have := (hr1.lt _ e).1; have := HBI.out; simp at *; omega) (.slice A9 (0 - 0) e9))
            clear hr1 hr2 hB2
            go_wp2
            go_ret2
            exact ⟨A1, 0, e1, by rw [HR.out]; rfl, by rw [HRO.out]; exact hR1.out, by rw [HRO.out]; exact HBT.out, by rw [HRF.out]; exact HG.out⟩
          · have hd4 : ((bs.length : Int) == 0) = false := by rw [beq_eq_false_iff_ne]; omega
            clear hb0 hw3 hh
            go_enter Try.func30, Try.ntmps30
            go_wp2_with fail
            refine HE.out.mono ?_
            rintro x w' ⟨rfl, rfl⟩
            go_wp2_with (refine wpList_min _ rfl (.tmp 46) (.tmp 51) 3 3 rfl (k : Int) (bs.length : Int) (m : Int) rfl rfl hmin ?_)
            go_wp2_with fail
            refine HC1.out.mono ?_
            rintro e w1 ⟨v1, rfl, hr1, hb1⟩
            obtain ⟨A1, e1, rfl, -, -⟩ := hr1.shape
            have hB1 := HO.out w1 hb1
            clear c0 c1 c2 f2 hl
            have c2 := hB1.cell 2
            have hl := hB1.lt
            dsimp at c2
            rw [HV0.out] at c2
            go_wp2_with (refine wpList_slice_lo rfl 23 5 (.tmp 64) (.tmp 65) rfl Try.underlying23 _ _ rfl rfl _ (HSL.out _) ?_)
            go_wp2_with fail
            refine (HC2.out w1 hb1).mono ?_
            rintro e w2 ⟨v2, rfl, hr2, hb2⟩
            obtain ⟨A9, e9, rfl, -, -⟩ := hr2.shape
            have hb12 := hb1.trans (hb2.mono hb1.size)
            have hB2 := HO.out w2 hb12
            clear c2 hl hB1
            have c2 := hB2.cell 2
            have f2 := hB2.free 2
            have hl := hB2.lt
            dsimp at c2
            have HG := Lib.hid (HFIN.out w2 _ hb12 (hr2.base_le hb1.size))
            have hR1 := Lib.hid ((hr1.grow hb2).setCell (p := ⟨b i, 2, none⟩) (fun e => by have := (hr1.lt _ e).1; have := HBI.out; simp at *; omega) (.slice A9 (bs.length - m) e9))
            clear hr1 hr2 hB2
            go_wp2
            go_ret2
            exact ⟨A1, m, e1, by rw [HR.out]; rfl, by rw [HRO.out]; exact hR1.out, by rw [HRO.out]; exact HBT.out, by rw [HRF.out]; exact HG.out⟩
    · obtain ⟨x, hx⟩ : ∃ x, errE F id 0 = x := ⟨_, rfl⟩
      rw [hx] at h0
      have HR := Lib.hid (read_err hn hx h0)
      have HE := Lib.hid (end_err h hx h0)
      have HX := Lib.hid h0
      have hd3 : (x != 0) = true := by simpa using h0
      clear h hx h0 hn
      go_enter Try.func30, Try.ntmps30
      go_wp2_with fail
      refine HE.out.mono ?_
      rintro y w' ⟨rfl, rfl⟩
      go_wp2
      go_ret2
      exact rd_bad HR.out HX.out HP.out
end
end Go.Proofs.Ythlhjaacjhlkhaa
