/- Contract of the sockets' Reach. -/
import Derived.Test.YtmoanemhjcdjkaaSkN
namespace Go.Proofs.Ytmoanemhjcdjkaa
open Go.RowKit
set_option maxHeartbeats 400000
set_option linter.unusedVariables false
set_option linter.unusedSimpArgs false
section
variable {w : World} {B g : Nat} {F : Fs} {L : Nat → Sl} {i : Nat} {p : Sk}
set_option maxHeartbeats 2000000 in
set_option maxRecDepth 100000 in
theorem reach_any (h : Re w B g F L) (hv : Inv F) (hB : B ≤ w.heap.size) (id port : Int) : Calls Try.prog 11 #[.pointer (some ⟨g, 0, none⟩), .int .i64 id, .int .i64 port] w (NamePost w B g F L (ReachR F id port)) := by
  have HP := Lib.hid h.refl
  have HBB := Lib.hid hB
  have HGR := Lib.hid (fun w3 (hb : Below w.heap.size w w3) => h.grown hb)
  by_cases h1 : port < 1
  · have hd : decide (port < 1) = true := by simpa using h1
    have HR : Hid (ReachR F id port 1 F) := Lib.hid (.arg (.inl h1))
    clear h h1
    go_enter Try.func11, Try.ntmps11
    go_wp2
    go_ret
    exact namePost HR.out HP.out
  have hd : decide (port < 1) = false := by simpa using h1
  by_cases h2 : 99 < port
  · have hd2 : decide (99 < port) = true := by simpa using h2
    have HR : Hid (ReachR F id port 1 F) := Lib.hid (.arg (.inr h2))
    clear h h1 h2
    go_enter Try.func11, Try.ntmps11
    go_wp2
    go_ret
    exact namePost HR.out HP.out
  have hd2 : decide (99 < port) = false := by simpa using h2
  have hport : 1 ≤ port ∧ port ≤ 99 := by omega
  cases ha : at1 F id with
  | none =>
    obtain ⟨V, hV⟩ : ∃ v : Int × Option Addr, Hid (Calls Try.prog 30 #[.pointer (some ⟨g, 0, none⟩), .int .i64 port] w fun e w' => e = .returned (.tuple #[.int .i64 v.1, .pointer v.2]) ∧ w = w') := by
      rcases named_or F port with hn | ⟨k, hn⟩
      · exact ⟨(0, none), Lib.hid (named_none h hn)⟩
      · exact ⟨((k : Int) + 1, some ⟨(L k).b, 0, none⟩), Lib.hid (named_some h hn)⟩
    obtain ⟨v1, v2⟩ := V
    dsimp only at hV
    have HF := Lib.hid (find_none h ha)
    have HR : Hid (ReachR F id port 4 F) := Lib.hid (.none hport ha)
    clear h h1 h2 ha hport hv
    go_enter Try.func11, Try.ntmps11
    go_wp2_with fail
    refine HF.out.mono ?_
    rintro x w' ⟨rfl, rfl⟩
    go_wp2_with fail
    refine hV.out.mono ?_
    rintro x w' ⟨rfl, rfl⟩
    go_wp2
    go_ret
    exact namePost HR.out HP.out
  | some x =>
    obtain ⟨j, hj, rfl, hp⟩ := at1_some ha
    have HF := Lib.hid (find_some h hj hp)
    have o := h.ob j x hj hp
    have c0 := o.blk.cell 0
    have hl := o.blk.lt
    dsimp [Sk.cells] at c0
    by_cases hk : x.kind = 0
    case neg =>
      obtain ⟨V, hV⟩ : ∃ v : Int × Option Addr, Hid (Calls Try.prog 30 #[.pointer (some ⟨g, 0, none⟩), .int .i64 port] w fun e w' => e = .returned (.tuple #[.int .i64 v.1, .pointer v.2]) ∧ w = w') := by
        rcases named_or F port with hn | ⟨k, hn⟩
        · exact ⟨(0, none), Lib.hid (named_none h hn)⟩
        · exact ⟨((k : Int) + 1, some ⟨(L k).b, 0, none⟩), Lib.hid (named_some h hn)⟩
      obtain ⟨v1, v2⟩ := V
      dsimp only at hV
      have HR : Hid (ReachR F ((j : Int) + 1) port 8 F) := Lib.hid (.state hport ha hk)
      have hd3 : (x.kind != 0) = true := by simpa using hk
      clear h h1 h2 ha hp o hk hport hv
      go_enter Try.func11, Try.ntmps11
      go_wp2_with fail
      refine HF.out.mono ?_
      rintro x w' ⟨rfl, rfl⟩
      go_wp2_with fail
      refine hV.out.mono ?_
      rintro x w' ⟨rfl, rfl⟩
      go_wp2
      go_ret
      exact namePost HR.out HP.out
    rw [hk] at c0
    rcases named_or F port with hn | ⟨k, hn⟩
    · have hV := Lib.hid (named_none h hn)
      have HR : Hid (ReachR F ((j : Int) + 1) port 10 F) := Lib.hid (.pipe hport ha hk hn)
      clear h h1 h2 ha hp o hk hport hv hn
      go_enter Try.func11, Try.ntmps11
      go_wp2_with fail
      refine HF.out.mono ?_
      rintro x w' ⟨rfl, rfl⟩
      go_wp2_with fail
      refine hV.out.mono ?_
      rintro x w' ⟨rfl, rfl⟩
      go_wp2
      go_ret
      exact namePost HR.out HP.out
    have hV := Lib.hid (named_some h hn)
    obtain ⟨hk16, ⟨y, hy, hyp, hy3⟩, -⟩ := id hn
    have oy := h.ob k y hk16 hy
    have d0 := oy.blk.cell 0
    have d2 := oy.blk.cell 2
    have d3 := oy.blk.cell 3
    have hly := oy.blk.lt
    obtain ⟨A0, n0, hv0, hn0, hm0⟩ := oy.q.shape
    dsimp [Sk.cells] at d0 d2 d3
    rw [hv0] at d3
    by_cases hy2 : y.kind = 2
    case neg =>
      have HR : Hid (ReachR F ((j : Int) + 1) port 10 F) := Lib.hid (.deaf hport ha hk hn hy hy2)
      have hd3 : (y.kind != 2) = true := by simpa using hy2
      clear h h1 h2 ha hp o hk hport hv hn oy hy hyp hy3 hy2 hv0
      go_enter Try.func11, Try.ntmps11
      go_wp2_with fail
      refine HF.out.mono ?_
      rintro x w' ⟨rfl, rfl⟩
      go_wp2_with fail
      refine hV.out.mono ?_
      rintro x w' ⟨rfl, rfl⟩
      go_wp2
      go_ret
      exact namePost HR.out HP.out
    rw [hy2] at d0
    obtain ⟨l, hll⟩ : ∃ l, y.q.length = l := ⟨_, rfl⟩
    rw [hll] at d3 hv0 hn0
    by_cases hq : (l : Int) = y.many
    · have HR : Hid (ReachR F ((j : Int) + 1) port 9 F) := Lib.hid (.wait hport ha hk hn hy hy2 (by rw [hll]; exact hq))
      rw [← hq] at d2
      clear h h1 h2 ha hp o hk hport hv hn oy hy hyp hy3 hy2 hv0 hq hll
      go_enter Try.func11, Try.ntmps11
      go_wp2_with fail
      refine HF.out.mono ?_
      rintro x w' ⟨rfl, rfl⟩
      go_wp2_with fail
      refine hV.out.mono ?_
      rintro x w' ⟨rfl, rfl⟩
      go_wp2_with fail
      refine wp_region_near w.heap.size (by kernel_rfl) (by kernel_rfl) ?_
      repeat (go_big_quiet_step (fail))
      refine wpQuiet_nil ?_
      intro w3 hb3
      have HP3 : Hid (RGo w B g F L F w3) := Lib.hid (HGR.out w3 hb3)
      go_wp2
      go_ret
      exact namePost HR.out HP3.out
    · have hdq : ((l : Int) == y.many) = false := by simpa using hq
      have H := Lib.hid h
      rcases free_or F with hff | ⟨i, hff⟩
      · have HR : Hid (ReachR F ((j : Int) + 1) port 6 F) := Lib.hid (.full hport ha hk hn hy hy2 (by rw [hll]; exact hq) hff)
        have HFF := Lib.hid hff
        clear h h1 h2 ha hp o hk hport hv hn oy hy hyp hy3 hy2 hv0 hq hll hff
        go_enter Try.func11, Try.ntmps11
        go_wp2_with fail
        refine HF.out.mono ?_
        rintro x w' ⟨rfl, rfl⟩
        go_wp2_with fail
        refine hV.out.mono ?_
        rintro x w' ⟨rfl, rfl⟩
        go_wp2_with fail
        refine wp_region_near w.heap.size (by kernel_rfl) (by kernel_rfl) ?_
        repeat (go_big_quiet_step (fail))
        refine wpQuiet_nil ?_
        intro w3 hb3
        have HP3 : Hid (RGo w B g F L F w3) := Lib.hid (HGR.out w3 hb3)
        have HM := Lib.hid (make_full (H.out.grow hb3) HFF.out)
        go_wp2_with fail
        refine HM.out.mono ?_
        rintro x w' ⟨rfl, rfl⟩
        go_wp2
        go_ret
        exact namePost HR.out HP3.out
      · have hr : ReachR F ((j : Int) + 1) port 0 _ := .ok hport hj rfl hp hk hn hy hy2 (by rw [hll]; exact hq) hff
        have hqlt : (y.q.length : Int) < y.many := by
          obtain ⟨k1, k2, k3, k4, k5, k6, k7, k8⟩ := oy.ok
          rw [hll] at k7 ⊢
          omega
        have HQL := Lib.hid hqlt
        have HR := Lib.hid hr
        have HFF := Lib.hid hff
        have HXJ := Lib.hid hp
        have HYK := Lib.hid hy
        have HPB := Lib.hid hport
        have HV0 := Lib.hid hv0
        have HLL := Lib.hid hll
        have hi := hff.1
        have hi' : (i : Int) < 16 := by omega
        have hy4 : l ≤ 4 := by
          obtain ⟨k1, k2, k3, k4, k5, k6, k7, k8⟩ := oy.ok
          rw [hll] at k7
          omega
        have HJK : Hid (j ≠ k) := Lib.hid (fun e => by
          subst e
          rw [hp] at hy
          injection hy with hy
          subst hy
          rw [hk] at hy2
          exact absurd hy2 (by decide))
        have HJI : Hid (j ≠ i) := Lib.hid (fun e => by
          have := hff.2.1
          rw [← e, hp] at this
          exact nomatch this)
        have HKI : Hid (k ≠ i) := Lib.hid (fun e => by
          have := hff.2.1
          rw [← e, hy] at this
          exact nomatch this)
        clear h h1 h2 ha hp o hk hport hv hn oy hy hyp hy3 hy2 hv0 hq hll hff hr hqlt
        go_enter Try.func11, Try.ntmps11
        go_wp2_with fail
        refine HF.out.mono ?_
        rintro x w' ⟨rfl, rfl⟩
        go_wp2_with fail
        refine hV.out.mono ?_
        rintro x w' ⟨rfl, rfl⟩
        go_wp2_with fail
        refine wp_region_near w.heap.size (by kernel_rfl) (by kernel_rfl) ?_
        repeat (go_big_quiet_step (fail))
        refine wpQuiet_nil ?_
        intro w3 hb3
        clear c0 d0 d2 d3 hl hly
        have h3 := H.out.grow hb3
        have HM := Lib.hid (make_free h3 HFF.out)
        have HE := Lib.hid ((H.out.grown_e hb3).trans (h3.fill_e HFF.out.1 HFF.out.2.1 (Nat.le_trans HBB.out hb3.size)))
        have hN : w3.heap.size < (MadeW w3 g i).heap.size := by unfold MadeW; simp
        have h4 := HE.out.1
        have e1 := (h4.blk.cell i).trans (cellsA_at _ _ HFF.out.1)
        rw [ptrA_some (put_same F i _), setL_same] at e1
        have o4 := h4.ob i _ HFF.out.1 (put_same F i _)
        rw [setL_same] at o4
        have n0 := o4.blk.cell 0
        have n1 := o4.blk.cell 1
        have n2 := o4.blk.cell 2
        have n3 := o4.blk.cell 3
        have n4 := o4.blk.cell 4
        have n5 := o4.blk.cell 5
        have n6 := o4.blk.cell 6
        have nf0 := o4.blk.free 0
        have nf1 := o4.blk.free 1
        have nf2 := o4.blk.free 2
        have nf3 := o4.blk.free 3
        have nf4 := o4.blk.free 4
        have nf5 := o4.blk.free 5
        have nf6 := o4.blk.free 6
        dsimp [Sk.cells, Sk.zero] at n0 n1 n2 n3 n4 n5 n6 e1
        have hg4 := h4.blk.lt
        obtain ⟨W1, hW1⟩ : ∃ W, W = MadeW w3 g i := ⟨_, rfl⟩
        rw [← hW1] at HM HE hN n0 n1 n2 n3 n4 n5 n6 nf0 nf1 nf2 nf3 nf4 nf5 nf6 hg4 e1
        have HW1 := Lib.hid hW1
        clear h3 h4 o4 hW1
        go_wp2_with fail
        refine HM.out.mono ?_
        rintro x w' ⟨rfl, rfl⟩
        go_upto_region 16 with fail
        go_upto_region 17 with fail
        change Code.wp _ _ _ _ (new7 w' w3.heap.size port ((j : Int) + 1))
        have HE5 := Lib.hid (HE.out.trans (HE.out.1.new7_e HFF.out.1 (put_same F i _) (setL_same L i _) HPB.out (id := (j : Int) + 1) (by omega)))
        generalize new7 w' w3.heap.size port ((j : Int) + 1) = W5 at HE5 ⊢
        clear e1 hg4 n0 n1 n2 n3 n4 n5 n6 nf0 nf1 nf2 nf3 nf4 nf5 nf6 HM HW1 hN HE
        rw [put_put] at HE5
        have hx5 := HE5.out.1.ob j _ hj ((put_other F HJI.out _).trans HXJ.out)
        rw [setL_other L HJI.out] at hx5
        have x0 := hx5.blk.cell 0
        have x1 := hx5.blk.cell 1
        have x4 := hx5.blk.cell 4
        have xf0 := hx5.blk.free 0
        have xf1 := hx5.blk.free 1
        have xf4 := hx5.blk.free 4
        have xl := hx5.blk.lt
        dsimp [Sk.cells] at x0 x1 x4
        clear hx5
        go_upto_region 18 with fail
        change Code.wp _ _ _ _ (new3 W5 (L j).b port ((i : Int) + 1))
        have HE6 := HE5.out.1.new3_e hj ((put_other F HJI.out _).trans HXJ.out) HPB.out (id := (i : Int) + 1) (by omega)
        rw [setL_other L HJI.out] at HE6
        replace HE6 := Lib.hid (HE5.out.trans HE6)
        generalize new3 W5 (L j).b port ((i : Int) + 1) = W6 at HE6 ⊢
        clear x0 x1 x4 xf0 xf1 xf4 xl HE5
        have hy6 := HE6.out.1.ob k _ hk16 ((put_other _ (Ne.symm HJK.out) _).trans ((put_other F HKI.out _).trans HYK.out))
        rw [setL_other L HKI.out] at hy6
        have y3 := hy6.blk.cell 3
        have yl := hy6.blk.lt
        have hyq := hy6.q
        dsimp [Sk.cells] at y3
        rw [HV0.out] at y3 hyq
        rw [HLL.out] at hyq
        have HROW := Lib.hid hyq
        have HBK := Lib.hid hy6.blk
        have HS6 : Hid (B ≤ W6.heap.size) := Lib.hid (Nat.le_trans HBB.out HE6.out.2.1.size)
        clear hy6 hyq
        obtain ⟨i0, ii, hz0, hz1, hz2⟩ := info_parts pi64info
        go_wp2_with (at_builtin; refine wpList_append_row _ rfl (.tmp 91) (.tmp 93) 49 rfl B 3 i0 (.int .i64 0) 1 8 Try.underlying49 ii hz0 hz1 hz2 rfl (by decide) (.slice A0 l n0) l (y.q.map (Value.int .i64)) rfl (HROW.out.alloc _) (W6.heap.size + 1) (some ⟨W6.heap.size, 0, none⟩) 1 1 [.int .i64 ((i : Int) + 1)] rfl ?c1 (by simp [Value.oneCell']) (by unfold maxLen; omega) (by omega) ?c2 ?_; rotate_left; skip)
        case c1 => exact ⟨rfl, fun _ => ⟨W6.heap.size, 0, rfl, by omega, fun j u hu => by rw [Nat.zero_add]; rw [(Blk.new W6 #[.int .i64 ((i : Int) + 1)] 3).cell]; simpa using hu⟩⟩
        case c2 => have := HS6.out; simp; omega
        intro A9 c9 w9 hr9 hg9 ho9
        have HM := HE6.out.1.more_e HS6.out hk16 ((put_other _ (Ne.symm HJK.out) _).trans ((put_other F HKI.out _).trans HYK.out)) HQL.out (n := (i : Int) + 1) (v := .slice A9 (l + 1) c9) _ (by rw [setL_other L HKI.out, HV0.out]; exact hg9) (by rw [HLL.out]; exact hr9) (by rw [setL_other L HKI.out, HV0.out]; simpa using ho9)
        rw [setL_other L HKI.out] at HM
        replace HM := Lib.hid (HE6.out.trans HM).go
        have hb9 := (HBK.out.alloc _).fr (Fr.of_grown hg9) (pp_row_blk HROW.out HBK.out (by decide))
        have z3 := hb9.cell 3
        have zf := hb9.free 3
        have zl := hb9.lt
        dsimp [Sk.cells] at z3
        clear hb9 hr9 hg9 ho9 y3 yl
        go_wp2
        go_ret
        exact namePost HR.out HM.out
end
end Go.Proofs.Ytmoanemhjcdjkaa
