/- Contract of the sockets' Read. -/
import Derived.Test.YtmoanemhjcdjkaaSkG
namespace Go.Proofs.Ytmoanemhjcdjkaa
open Go.RowKit
set_option maxHeartbeats 400000
set_option linter.unusedVariables false
set_option linter.unusedSimpArgs false
theorem wpList_min {P : Program} (w : World) {ops : Array Oper} {rest : List Oper} {o : Oper} {a : Act} {Q : Exit → Act → World → Prop} (hgd : o.guard = none) (x y : Operand) (t u : TypeId)
    (ho : o.op = .call { callee := .builtin .min, args := #[x, y], argTypes := #[t, u] }) (p q r : Int) (hx : a.eval x = .int .i64 p) (hy : a.eval y = .int .i64 q) (hr : min p q = r)
    (h : wpList P ops Q rest (a.put o.dst (.int .i64 r)) w) : wpList P ops Q (o :: rest) a w :=
  wpList_plain hgd fun K hK => by
    subst hr
    unfold Oper.wp execOp
    by_cases hpq : q < p
    · have e : min p q = q := by omega
      simp only [ho, resolve, invoke, builtin, Sem.run_bind, Sem.run_pure, Result.andThen_ok, List.map_toArray, List.map_cons, List.map_nil, hx, hy]
      simp [Builtin.min_, Builtin.min2, hpq, go_sem]
      rw [e] at h
      exact hK _ _ h
    · have e : min p q = p := by omega
      simp only [ho, resolve, invoke, builtin, Sem.run_bind, Sem.run_pure, Result.andThen_ok, List.map_toArray, List.map_cons, List.map_nil, hx, hy]
      simp [Builtin.min_, Builtin.min2, hpq, go_sem]
      rw [e] at h
      exact hK _ _ h
theorem byt_take {xs : List Int} (h : Byt xs) (k : Nat) : Byt (xs.take k) := fun x hx => h x (List.mem_of_mem_take hx)
theorem byt_drop {xs : List Int} (h : Byt xs) (k : Nat) : Byt (xs.drop k) := fun x hx => h x (List.mem_of_mem_drop hx)
theorem take_min {α : Type} (xs : List α) (k : Nat) : xs.take k = xs.take (min k xs.length) := by
  rcases Nat.le_total k xs.length with h | h
  · rw [Nat.min_eq_left h]
  · rw [Nat.min_eq_right h, List.take_of_length_le h, List.take_length]
theorem drop_min {α : Type} (xs : List α) (k : Nat) : xs.drop k = xs.drop (min k xs.length) := by
  rcases Nat.le_total k xs.length with h | h
  · rw [Nat.min_eq_left h]
  · rw [Nat.min_eq_right h, List.drop_of_length_le h, List.drop_length]
theorem row_rb {w : World} {base n c : Nat} {A : Option Addr} {xs : List Int} (h : Row w base 5 1 (.slice A n c) n (xs.map (Value.int .u8))) (hb : Byt xs) : RB w w.heap.size A n xs := ⟨h.reads, hb⟩
def RetRd (W : World) (B g : Nat) (F : Fs) (L : Nat → Sl) (id n : Int) (e : Ending) (w' : World) : Prop :=
  ∃ A m c y xs F', e = .returned (.tuple #[.slice A m c, .int .i64 y]) ∧ ReadR F id n xs y F' ∧ Row w' W.heap.size 5 1 (.slice A m c) m (xs.map (Value.int .u8)) ∧ Byt xs ∧ RGo W B g F L F' w'
section
variable {w : World} {B g : Nat} {F : Fs} {L : Nat → Sl} {i : Nat} {p : Sk}
theorem rd_bad {w' : World} {id n y : Int} (hr : ReadR F id n [] y F) (hG : RGo w B g F L F w') : RetRd w B g F L id n (.returned (.tuple #[.slice none 0 0, .int .i64 y])) w' :=
  ⟨none, 0, 0, y, [], F, rfl, hr, Row.nil _ _ _ _, fun y hy => by simp at hy, hG⟩
set_option maxHeartbeats 2000000 in
set_option maxRecDepth 100000 in
theorem read_any (h : Re w B g F L) (hB : B ≤ w.heap.size) (id n : Int) : Calls Try.prog 17 #[.pointer (some ⟨g, 0, none⟩), .int .i64 id, .int .i64 n] w (RetRd w B g F L id n) := by
  have HP := Lib.hid h.refl
  by_cases hn : n < 0 ∨ 256 < n
  · have HE : Hid (ReadR F id n [] 1 F) := Lib.hid (.arg hn)
    clear h
    go_enter Try.func17, Try.ntmps17
    rcases hn with hn | hn
    · have hd : decide (n < 0) = true := by simpa using hn
      go_wp2
      go_ret2
      exact rd_bad HE.out HP.out
    · have hd : decide (n < 0) = false := by simp; omega
      have hd2 : decide (256 < n) = true := by simpa using hn
      go_wp2
      go_ret2
      exact rd_bad HE.out HP.out
  · have hd : decide (n < 0) = false := by simp; omega
    have hd2 : decide (256 < n) = false := by simp; omega
    have hn' : 0 ≤ n ∧ n ≤ 256 := by omega
    cases ha : at1 F id with
    | none =>
      have HJ := Lib.hid (joined_none h ha)
      have HR : Hid (ReadR F id n [] 4 F) := Lib.hid (.none hn' ha)
      clear h ha hn hn'
      go_enter Try.func17, Try.ntmps17
      go_wp2_with fail
      refine HJ.out.mono ?_
      rintro x w' ⟨rfl, rfl⟩
      go_wp2
      go_ret2
      exact rd_bad HR.out HP.out
    | some p =>
      obtain ⟨i, hi, rfl, hp⟩ := at1_some ha
      by_cases hk : p.kind = 3
      · have HJ := Lib.hid (joined_ok h hi hp hk)
        have o := h.ob i p hi hp
        have hok := o.ok
        obtain ⟨A0, n0, hv0, hn0, hm0⟩ := o.s.shape
        have c5 := o.blk.cell 5
        have f5 := o.blk.free 5
        have hl := o.blk.lt
        dsimp [Sk.cells] at c5
        rw [hv0] at c5
        by_cases hw : 0 < n ∧ p.bs = [] ∧ ∃ y, at1 F p.peer = some y ∧ y.shut = false
        · obtain ⟨hh1, hh2, y, hy, hys⟩ := hw
          have HR : Hid (ReadR F ((i : Int) + 1) n [] 9 F) := Lib.hid (.wait hn' ha hk hh1 hh2 hy hys)
          obtain ⟨j, hj, hpe, hyj⟩ := at1_some hy
          have hp1 : ptr1 F L p.peer = .pointer (some ⟨(L j).b, 0, none⟩) := by rw [hpe]; exact ptr1_of hj hyj
          rw [hp1] at HJ
          have oy := h.ob j y hj hyj
          have cy := oy.blk.cell 6
          have hly := oy.blk.lt
          dsimp [Sk.cells] at cy
          rw [hys] at cy
          have hd3 : decide (0 < n) = true := by simpa using hh1
          rw [hh2] at c5
          dsimp at c5
          clear h hp hn ha hh1 hh2 hy hys hpe hyj hp1 o oy hk hn' hok hv0
          go_enter Try.func17, Try.ntmps17
          go_wp2_with fail
          refine HJ.out.mono ?_
          rintro x w' ⟨rfl, rfl⟩
          go_wp2
          go_ret2
          exact rd_bad HR.out HP.out
        · obtain ⟨k, rfl⟩ : ∃ k : Nat, n = k := ⟨n.toNat, by omega⟩
          have hr : ReadR F ((i : Int) + 1) k (p.bs.take (k : Int).toNat) 0 (put F i (some { p with bs := p.bs.drop (k : Int).toNat })) := .ok hn' hi rfl hp hk hw
          rw [Int.toNat_natCast] at hr
          obtain ⟨k1, k2, k3, k4, k5, k6, k7, k8, k9, k10, k11⟩ := hok
          have os := o.s
          have ob := o.blk
          obtain ⟨bs, hbs⟩ : ∃ bs, p.bs = bs := ⟨_, rfl⟩
          rw [hbs] at hr k10 k11 os c5 hv0 hn0 hw
          obtain ⟨m, hm⟩ : ∃ m, min k bs.length = m := ⟨_, rfl⟩
          rw [take_min, drop_min, hm] at hr
          have hml : m ≤ bs.length := by omega
          have hmk : m ≤ k := by omega
          rw [hv0] at os
          have hrow1 := os.take (k := m) hml
          rw [Nat.mul_one, ← List.map_take] at hrow1
          have HC1 := Lib.hid (bclone_any A0 m n0 (bs.take m) w w.heap.size ⟨hrow1.reads, byt_take k11 m⟩ (Nat.le_refl _) (by omega))
          obtain ⟨A2, hsl, hrow2⟩ := row_cut_run Try.prog (t := 30) (e := 5) Try.underlying30 (by kernel_rfl) (fun W => by kernel_rfl) os m hml hn0
          rw [← List.map_drop] at hrow2
          have HSL : Hid (∀ W, (Instr.slice 30 (.slice A0 bs.length n0) (some (.int .i64 (m : Int))) none none).run Try.prog W = .ok (.slice A2 (bs.length - m) (n0 - m)) W) := Lib.hid hsl
          have HC2 := Lib.hid (fun w1 (hb : Below w.heap.size w w1) => bclone_any A2 (bs.length - m) (n0 - m) (bs.drop m) w1 w.heap.size ⟨hrow2.reads.below' hb (Nat.le_refl _), byt_drop k11 m⟩ hb.size (by omega))
          have HO := Lib.hid (fun w' (hb : Below w.heap.size w w') => ob.fr (Fr.of_grow hb) id)
          have HFIN : Hid (∀ w2 x, Below w.heap.size w w2 → Row w2 w.heap.size 5 1 x (bs.length - m) ((bs.drop m).map (Value.int .u8)) → RGo w B g F L (put F i (some { p with bs := bs.drop m })) (w2.setCell ⟨(L i).b, 5, none⟩ x)) := Lib.hid (fun w2 x hb2 hrx =>
            h.new_s hB hi hp hb2 (by rw [List.length_drop]; exact hrx) ⟨k1, k2, k3, k4, k5, k6, k7, k8, k9, by dsimp only; rw [List.length_drop]; omega, byt_drop k11 m⟩)
          have HR := Lib.hid hr
          have HBT := Lib.hid (byt_take k11 m)
          have hk256 : k ≤ 256 := by omega
          have hmin : min (k : Int) (bs.length : Int) = m := by omega
          have HM := Lib.hid hm
          have HLN := Lib.hid k10
          have hmn : (m : Int) ≤ n0 := by omega
          have hmn' : m ≤ n0 := by omega
          have HW := Lib.hid hw
          have HV0 := Lib.hid hv0
          have HBI : Hid ((L i).b < w.heap.size) := Lib.hid hl
          have HOB := Lib.hid h.ob
          clear h hp hn ha hr o os ob hrow1 hrow2 hsl hd2 hd k1 k2 k3 k4 k5 k6 k7 k8 k9 k10 k11 hv0 hn' hk hw hbs HP
          rcases (by omega : k = 0 ∨ 0 < k) with hk0 | hk0
          · have hk0' : ¬ 0 < k := by omega
            clear hk0
            generalize ptr1 F L p.peer = y at *
            go_enter Try.func17, Try.ntmps17
            go_wp2_with fail
            refine HJ.out.mono ?_
            rintro x w' ⟨rfl, rfl⟩
            go_wp2_with (refine wpList_min _ rfl (.tmp 51) (.tmp 56) 3 3 rfl (k : Int) (bs.length : Int) (m : Int) rfl rfl hmin ?_)
            go_wp2_with fail
            refine HC1.out.mono ?_
            rintro e w1 ⟨v1, rfl, hr1, hb1⟩
            obtain ⟨A1, e1, rfl, -, -⟩ := hr1.shape
            have hB1 := HO.out w1 hb1
            clear c5 f5 hl
            have c5 := hB1.cell 5
            have hl := hB1.lt
            dsimp [Sk.cells] at c5
            rw [HV0.out] at c5
            go_wp2_with (refine wpList_slice_lo rfl 30 5 (.tmp 69) (.tmp 70) rfl Try.underlying30 _ _ rfl rfl _ (HSL.out _) ?_)
            go_wp2_with fail
            refine (HC2.out w1 hb1).mono ?_
            rintro e w2 ⟨v2, rfl, hr2, hb2⟩
            obtain ⟨A9, e9, rfl, -, -⟩ := hr2.shape
            have hb12 := hb1.trans (hb2.mono hb1.size)
            have hB2 := HO.out w2 hb12
            clear c5 hl hB1
            have c5 := hB2.cell 5
            have f5 := hB2.free 5
            have hl := hB2.lt
            dsimp [Sk.cells] at c5
            have HG := Lib.hid (HFIN.out w2 _ hb12 (hr2.base_le hb1.size))
            have hR1 := Lib.hid ((hr1.grow hb2).setCell (p := ⟨(L i).b, 5, none⟩) (fun e => by have := (hr1.lt _ e).1; have := HBI.out; simp at *; omega) (.slice A9 (bs.length - m) e9))
            clear hr1 hr2 hB2
            go_wp2
            go_ret2
            exact ⟨A1, m, e1, 0, _, _, rfl, HR.out, hR1.out, HBT.out, HG.out⟩
          · by_cases hb0 : bs.length = 0
            · have hbn : bs = [] := List.eq_nil_of_length_eq_zero hb0
              rw [hb0] at c5 HV0 HSL hmin HC2 hml HFIN
              obtain rfl : m = 0 := by omega
              cases hy : at1 F p.peer with
              | none =>
                have hp1 : ptr1 F L p.peer = .pointer none := ptr1_none hy
                rw [hp1] at HJ
                clear hb0 hbn hy hp1
                go_enter Try.func17, Try.ntmps17
                go_wp2_with fail
                refine HJ.out.mono ?_
                rintro x w' ⟨rfl, rfl⟩
                go_wp2_with (refine wpList_min _ rfl (.tmp 51) (.tmp 56) 3 3 rfl (k : Int) ((0 : Nat) : Int) ((0 : Nat) : Int) rfl rfl hmin ?_)
                go_wp2_with fail
                refine HC1.out.mono ?_
                rintro e w1 ⟨v1, rfl, hr1, hb1⟩
                obtain ⟨A1, e1, rfl, -, -⟩ := hr1.shape
                have hB1 := HO.out w1 hb1
                clear c5 f5 hl
                have c5 := hB1.cell 5
                have hl := hB1.lt
                dsimp [Sk.cells] at c5
                rw [HV0.out] at c5
                go_wp2_with (refine wpList_slice_lo rfl 30 5 (.tmp 69) (.tmp 70) rfl Try.underlying30 _ _ rfl rfl _ (HSL.out _) ?_)
                go_wp2_with fail
                refine (HC2.out w1 hb1).mono ?_
                rintro e w2 ⟨v2, rfl, hr2, hb2⟩
                obtain ⟨A9, e9, rfl, -, -⟩ := hr2.shape
                have hb12 := hb1.trans (hb2.mono hb1.size)
                have hB2 := HO.out w2 hb12
                clear c5 hl hB1
                have c5 := hB2.cell 5
                have f5 := hB2.free 5
                have hl := hB2.lt
                dsimp [Sk.cells] at c5
                have HG := Lib.hid (HFIN.out w2 _ hb12 (hr2.base_le hb1.size))
                have hR1 := Lib.hid ((hr1.grow hb2).setCell (p := ⟨(L i).b, 5, none⟩) (fun e => by have := (hr1.lt _ e).1; have := HBI.out; simp at *; omega) (.slice A9 (0 - 0) e9))
                clear hr1 hr2 hB2
                go_wp2
                go_ret2
                exact ⟨A1, 0, e1, 0, _, _, rfl, HR.out, hR1.out, HBT.out, HG.out⟩
              | some y =>
                have hys : y.shut = true := by
                  cases e : y.shut with
                  | true => rfl
                  | false => exact absurd ⟨by omega, hbn, y, hy, e⟩ HW.out
                obtain ⟨j, hj, hpe, hyj⟩ := at1_some hy
                have hp1 : ptr1 F L p.peer = .pointer (some ⟨(L j).b, 0, none⟩) := by rw [hpe]; exact ptr1_of hj hyj
                rw [hp1] at HJ
                have oy := HOB.out j y hj hyj
                have cy := oy.blk.cell 6
                have hly := oy.blk.lt
                dsimp [Sk.cells] at cy
                rw [hys] at cy
                clear hb0 hbn hy hp1 hys hpe hyj oy
                go_enter Try.func17, Try.ntmps17
                go_wp2_with fail
                refine HJ.out.mono ?_
                rintro x w' ⟨rfl, rfl⟩
                go_wp2_with (refine wpList_min _ rfl (.tmp 51) (.tmp 56) 3 3 rfl (k : Int) ((0 : Nat) : Int) ((0 : Nat) : Int) rfl rfl hmin ?_)
                go_wp2_with fail
                refine HC1.out.mono ?_
                rintro e w1 ⟨v1, rfl, hr1, hb1⟩
                obtain ⟨A1, e1, rfl, -, -⟩ := hr1.shape
                have hB1 := HO.out w1 hb1
                clear c5 f5 hl
                have c5 := hB1.cell 5
                have hl := hB1.lt
                dsimp [Sk.cells] at c5
                rw [HV0.out] at c5
                go_wp2_with (refine wpList_slice_lo rfl 30 5 (.tmp 69) (.tmp 70) rfl Try.underlying30 _ _ rfl rfl _ (HSL.out _) ?_)
                go_wp2_with fail
                refine (HC2.out w1 hb1).mono ?_
                rintro e w2 ⟨v2, rfl, hr2, hb2⟩
                obtain ⟨A9, e9, rfl, -, -⟩ := hr2.shape
                have hb12 := hb1.trans (hb2.mono hb1.size)
                have hB2 := HO.out w2 hb12
                clear c5 hl hB1
                have c5 := hB2.cell 5
                have f5 := hB2.free 5
                have hl := hB2.lt
                dsimp [Sk.cells] at c5
                have HG := Lib.hid (HFIN.out w2 _ hb12 (hr2.base_le hb1.size))
                have hR1 := Lib.hid ((hr1.grow hb2).setCell (p := ⟨(L i).b, 5, none⟩) (fun e => by have := (hr1.lt _ e).1; have := HBI.out; simp at *; omega) (.slice A9 (0 - 0) e9))
                clear hr1 hr2 hB2
                go_wp2
                go_ret2
                exact ⟨A1, 0, e1, 0, _, _, rfl, HR.out, hR1.out, HBT.out, HG.out⟩
            · have hd4 : ((bs.length : Int) == 0) = false := by rw [beq_eq_false_iff_ne]; omega
              clear hb0
              generalize ptr1 F L p.peer = y at *
              go_enter Try.func17, Try.ntmps17
              go_wp2_with fail
              refine HJ.out.mono ?_
              rintro x w' ⟨rfl, rfl⟩
              go_wp2_with (refine wpList_min _ rfl (.tmp 51) (.tmp 56) 3 3 rfl (k : Int) (bs.length : Int) (m : Int) rfl rfl hmin ?_)
              go_wp2_with fail
              refine HC1.out.mono ?_
              rintro e w1 ⟨v1, rfl, hr1, hb1⟩
              obtain ⟨A1, e1, rfl, -, -⟩ := hr1.shape
              have hB1 := HO.out w1 hb1
              clear c5 f5 hl
              have c5 := hB1.cell 5
              have hl := hB1.lt
              dsimp [Sk.cells] at c5
              rw [HV0.out] at c5
              go_wp2_with (refine wpList_slice_lo rfl 30 5 (.tmp 69) (.tmp 70) rfl Try.underlying30 _ _ rfl rfl _ (HSL.out _) ?_)
              go_wp2_with fail
              refine (HC2.out w1 hb1).mono ?_
              rintro e w2 ⟨v2, rfl, hr2, hb2⟩
              obtain ⟨A9, e9, rfl, -, -⟩ := hr2.shape
              have hb12 := hb1.trans (hb2.mono hb1.size)
              have hB2 := HO.out w2 hb12
              clear c5 hl hB1
              have c5 := hB2.cell 5
              have f5 := hB2.free 5
              have hl := hB2.lt
              dsimp [Sk.cells] at c5
              have HG := Lib.hid (HFIN.out w2 _ hb12 (hr2.base_le hb1.size))
              have hR1 := Lib.hid ((hr1.grow hb2).setCell (p := ⟨(L i).b, 5, none⟩) (fun e => by have := (hr1.lt _ e).1; have := HBI.out; simp at *; omega) (.slice A9 (bs.length - m) e9))
              clear hr1 hr2 hB2
              go_wp2
              go_ret2
              exact ⟨A1, m, e1, 0, _, _, rfl, HR.out, hR1.out, HBT.out, HG.out⟩
      · have HJ := Lib.hid (joined_state h hi hp hk)
        have HR : Hid (ReadR F ((i : Int) + 1) n [] 8 F) := Lib.hid (.state hn' ha hk)
        clear h hp ha hn hn' hk
        go_enter Try.func17, Try.ntmps17
        go_wp2_with fail
        refine HJ.out.mono ?_
        rintro x w' ⟨rfl, rfl⟩
        go_wp2
        go_ret2
        exact rd_bad HR.out HP.out
end
end Go.Proofs.Ytmoanemhjcdjkaa
