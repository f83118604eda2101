/- Contract of the sockets' Write. -/
import Derived.Test.YtmoanemhjcdjkaaSkH
namespace Go.Proofs.Ytmoanemhjcdjkaa
open Go.RowKit
set_option maxHeartbeats 400000
set_option linter.unusedVariables false
set_option linter.unusedSimpArgs false
section
variable {w : World} {B g : Nat} {F : Fs} {L : Nat → Sl} {i : Nat} {p : Sk}
set_option maxHeartbeats 2000000 in
set_option maxRecDepth 100000 in
theorem write_any (h : Re w B g F L) (hB : B ≤ w.heap.size) (id : Int) (A2 : Option Addr) (n2 cc : Nat) (xs : List Int) (BB : Nat) (hx : RB w BB A2 n2 xs) (hnc : n2 ≤ cc) (hcc : cc ≤ 9223372036854775807) : Calls Try.prog 15 #[.pointer (some ⟨g, 0, none⟩), .int .i64 id, .slice A2 n2 cc] w (TwoPost w B g F L (WriteR F id xs)) := by
  have HP := Lib.hid h.refl
  have hlx := hx.len
  by_cases hn : 256 < xs.length
  · have HE : Hid (WriteR F id xs 0 1 F) := Lib.hid (.arg hn)
    have hd : decide ((256 : Int) < n2) = true := by simp; omega
    clear h
    go_enter Try.func15, Try.ntmps15
    go_wp2
    go_ret2
    exact twoPost HE.out HP.out
  · have hd : decide ((256 : Int) < n2) = false := by simp; omega
    have hn' : xs.length ≤ 256 := by omega
    cases ha : at1 F id with
    | none =>
      have HJ := Lib.hid (joined_none h ha)
      have HR : Hid (WriteR F id xs 0 4 F) := Lib.hid (.none hn' ha)
      clear h ha hn hn'
      go_enter Try.func15, Try.ntmps15
      go_wp2_with fail
      refine HJ.out.mono ?_
      rintro x w' ⟨rfl, rfl⟩
      go_wp2
      go_ret2
      exact twoPost HR.out HP.out
    | some p =>
      obtain ⟨i, hi, rfl, hp⟩ := at1_some ha
      by_cases hk : p.kind = 3
      · have HJ := Lib.hid (joined_ok h hi hp hk)
        have o := h.ob i p hi hp
        have c6 := o.blk.cell 6
        have hl := o.blk.lt
        dsimp [Sk.cells] at c6
        cases hs : p.shut with
        | true =>
          have HR : Hid (WriteR F ((i : Int) + 1) xs 0 8 F) := Lib.hid (.state hn' ha (.inr hs))
          rw [hs] at c6
          generalize ptr1 F L p.peer = y at *
          clear h hp hn ha hn' hk hs o
          go_enter Try.func15, Try.ntmps15
          go_wp2_with fail
          refine HJ.out.mono ?_
          rintro x w' ⟨rfl, rfl⟩
          go_wp2
          go_ret2
          exact twoPost HR.out HP.out
        | false =>
          rw [hs] at c6
          cases hy : at1 F p.peer with
          | none =>
            have hp1 : ptr1 F L p.peer = .pointer none := ptr1_none hy
            rw [hp1] at HJ
            have HR : Hid (WriteR F ((i : Int) + 1) xs 0 10 F) := Lib.hid (.pipe hn' ha hk hs hy)
            clear h hp hn ha hn' hk hs o hy hp1
            go_enter Try.func15, Try.ntmps15
            go_wp2_with fail
            refine HJ.out.mono ?_
            rintro x w' ⟨rfl, rfl⟩
            go_wp2
            go_ret2
            exact twoPost HR.out HP.out
          | some y =>
            obtain ⟨j, hj, hpe, hyj⟩ := at1_some hy
            have hp1 : ptr1 F L p.peer = .pointer (some ⟨(L j).b, 0, none⟩) := by rw [hpe]; exact ptr1_of hj hyj
            rw [hp1] at HJ
            obtain ⟨o1, oq, o2, olow, ook⟩ := h.ob j y hj hyj
            obtain ⟨k1, k2, k3, k4, k5, k6, k7, k8, k9, k10, k11⟩ := ook
            obtain ⟨A0, n0, hv0, hn0, hm0⟩ := o2.shape
            have c5 := o1.cell 5
            have f5 := o1.free 5
            have hly := o1.lt
            dsimp [Sk.cells] at c5
            rw [hv0] at c5
            by_cases hh : 0 < xs.length ∧ y.bs.length = 64
            · have HR : Hid (WriteR F ((i : Int) + 1) xs 0 9 F) := Lib.hid (.wait hn' ha hk hs hy hh.1 hh.2)
              obtain ⟨hh1, hh2⟩ := hh
              rw [hh2] at c5
              have hn2p : 0 < n2 := by omega
              clear h hp hn ha hn' hk hs o hy hp1 hpe hyj o1 oq o2 hh1 hh2
              go_enter Try.func15, Try.ntmps15
              go_wp2_with fail
              refine HJ.out.mono ?_
              rintro x w' ⟨rfl, rfl⟩
              go_wp2
              go_ret2
              exact twoPost HR.out HP.out
            · have hr : WriteR F ((i : Int) + 1) xs (min xs.length (64 - y.bs.length) : Nat) 0 (put F j (some { y with bs := y.bs ++ xs.take (64 - y.bs.length) })) := .ok hn' ha hk hs hj hpe hyj (by omega)
              obtain ⟨bs, hbs⟩ : ∃ bs, y.bs = bs := ⟨_, rfl⟩
              rw [hbs] at hh hr k10 k11 o2 c5 hv0 hn0
              obtain ⟨l, hll⟩ : ∃ l, bs.length = l := ⟨_, rfl⟩
              rw [hll] at hh hr k10 o2 c5 hv0 hn0
              rw [hlx] at hh
              obtain ⟨nn, hnn⟩ : ∃ nn, min xs.length (64 - l) = nn := ⟨_, rfl⟩
              rw [take_min, Nat.min_comm (64 - l), hnn] at hr
              have hnx : nn ≤ n2 := by omega
              have hsum : l + nn ≤ 64 := by omega
              have hmin : min (n2 : Int) (64 - (l : Int)) = nn := by omega
              obtain ⟨i0, ii, hz0, hz1, hz2⟩ := info_parts pu8info
              rw [hv0] at o2
              have hrd := hx.1.take hnx
              rw [Nat.mul_one, ← List.map_take] at hrd
              have HRD := Lib.hid hrd.drew
              have HROW := Lib.hid o2.drew
              have HO1 := Lib.hid o1.drew
              have HFIN : Hid (∀ A9 c9 w9, Row w9 B 5 1 (.slice A9 (l + nn) c9) (l + nn) (bs.map (Value.int .u8) ++ (xs.take nn).map (Value.int .u8)) → w.drew.grownBy w9 (Value.slice A0 l n0).ownBlock → ((Value.slice A9 (l + nn) c9).ownBlock = (Value.slice A0 l n0).ownBlock ∨ (Value.slice A9 (l + nn) c9).ownBlock = some w.drew.heap.size) → RGo w B g F L (put F j (some { y with bs := bs ++ xs.take nn })) (w9.setCell ⟨(L j).b, 5, none⟩ (.slice A9 (l + nn) c9))) := Lib.hid (fun A9 c9 w9 hr9 hg9 ho9 => by
                have hf0 : Fr (fun k => (L j).s.ownBlock = some k) w w9 := ((Fr.refl _ w).drew).grown hg9 (fun k e _ => by rw [hv0]; exact e)
                have hlen : (bs ++ xs.take nn).length = l + nn := by rw [List.length_append, List.length_take, hll]; omega
                obtain ⟨t1, t2, t3⟩ := h.turn_s hj hyj hf0 (v := .slice A9 (l + nn) c9) (xs := bs ++ xs.take nn) (by rw [hlen, List.map_append]; exact hr9) (fun k hk => by
                  rcases ho9 with e2 | e2
                  · left; rw [hv0]; exact e2.symm.trans hk
                  · rw [e2] at hk; injection hk with hk; right; simp at hk; omega) ⟨k1, k2, k3, k4, k5, k6, k7, k8, k9, by dsimp only; omega, fun z hz => by
                  rcases List.mem_append.1 hz with e | e
                  · exact k11 z e
                  · exact hx.2 z (List.mem_of_mem_take e)⟩
                exact h.put hj hyj (l := { L j with s := .slice A9 (l + nn) c9 }) rfl t1 t2 t3)
              have HR := Lib.hid hr
              have hnc2 : nn ≤ cc := by omega
              have hl64 : l ≤ 64 := k10
              clear h hp hn ha hn' hk hs o hy hp1 hpe hyj o1 oq o2 hrd hr k1 k2 k3 k4 k5 k6 k7 k8 k9 k10 k11 hv0 hll hx hlx hbs HP
              rcases (by omega : n2 = 0 ∨ 0 < n2) with hk0 | hk0
              · have hk0' : ¬ 0 < n2 := by omega
                clear hk0 hh
                go_enter Try.func15, Try.ntmps15
                go_wp2_with fail
                refine HJ.out.mono ?_
                rintro x w' ⟨rfl, rfl⟩
                go_wp2_with (refine wpList_min _ rfl (.tmp 47) (.tmp 53) 3 3 rfl (n2 : Int) (64 - (l : Int)) (nn : Int) rfl rfl hmin ?_)
                go_region_law (first | (refine step_append_row rfl (.tmp 59) (.tmp 62) 30 rfl B 5 i0 (.int .u8 0) 1 1 Try.underlying30 ii hz0 hz1 hz2 rfl (by decide) (.slice A0 l n0) l (bs.map (Value.int .u8)) (by simp [Act.eval, Act.put]) HROW.out BB A2 nn cc ((xs.take nn).map (Value.int .u8)) (by simp [Act.eval, Act.put]) HRD.out (u8_oneCell _) (by unfold maxLen; omega) (by omega) (by simpa using hB) ?_; intro A9 c9 w9 hr9 hg9 ho9; have kb9 := HO1.out.fr (Fr.of_grown hg9) (pp_row_blk HROW.out HO1.out (by decide)); have k95 := kb9.cell 5; dsimp [Sk.cells] at k95; have kl9 := kb9.lt; have kf9 := kb9.free 5; have HP9 := Lib.hid (HFIN.out A9 c9 w9 hr9 hg9 ho9); clear kb9 hr9 hg9 ho9) | fail)
                all_goals
                  go_wp2
                  go_ret2
                  exact twoPost HR.out HP9.out
              · have hd4 : ((l : Int) == 64) = false := by rw [beq_eq_false_iff_ne]; omega
                clear hh
                go_enter Try.func15, Try.ntmps15
                go_wp2_with fail
                refine HJ.out.mono ?_
                rintro x w' ⟨rfl, rfl⟩
                go_wp2_with (refine wpList_min _ rfl (.tmp 47) (.tmp 53) 3 3 rfl (n2 : Int) (64 - (l : Int)) (nn : Int) rfl rfl hmin ?_)
                go_region_law (first | (refine step_append_row rfl (.tmp 59) (.tmp 62) 30 rfl B 5 i0 (.int .u8 0) 1 1 Try.underlying30 ii hz0 hz1 hz2 rfl (by decide) (.slice A0 l n0) l (bs.map (Value.int .u8)) (by simp [Act.eval, Act.put]) HROW.out BB A2 nn cc ((xs.take nn).map (Value.int .u8)) (by simp [Act.eval, Act.put]) HRD.out (u8_oneCell _) (by unfold maxLen; omega) (by omega) (by simpa using hB) ?_; intro A9 c9 w9 hr9 hg9 ho9; have kb9 := HO1.out.fr (Fr.of_grown hg9) (pp_row_blk HROW.out HO1.out (by decide)); have k95 := kb9.cell 5; dsimp [Sk.cells] at k95; have kl9 := kb9.lt; have kf9 := kb9.free 5; have HP9 := Lib.hid (HFIN.out A9 c9 w9 hr9 hg9 ho9); clear kb9 hr9 hg9 ho9) | fail)
                all_goals
                  go_wp2
                  go_ret2
                  exact twoPost HR.out HP9.out
      · have HJ := Lib.hid (joined_state h hi hp hk)
        have HR : Hid (WriteR F ((i : Int) + 1) xs 0 8 F) := Lib.hid (.state hn' ha (.inl hk))
        clear h hp ha hn hn' hk
        go_enter Try.func15, Try.ntmps15
        go_wp2_with fail
        refine HJ.out.mono ?_
        rintro x w' ⟨rfl, rfl⟩
        go_wp2
        go_ret2
        exact twoPost HR.out HP.out
end
end Go.Proofs.Ytmoanemhjcdjkaa
