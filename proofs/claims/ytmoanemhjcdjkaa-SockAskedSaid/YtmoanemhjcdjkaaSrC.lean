/- Contracts of the reference's SockAccepted and SockReached. -/
import Derived.Test.YtmoanemhjcdjkaaSrB
namespace Go.Proofs.Ytmoanemhjcdjkaa
open Go.RowKit Go.Maps
set_option maxHeartbeats 400000
set_option linter.unusedVariables false
set_option linter.unusedSimpArgs false
section
variable {w : World} {B b n : Nat} {F : Fs} {M : Nat → Ml} {i : Nat} {p : Sk}
set_option maxRecDepth 100000 in
theorem raccept_any (h : Rr w B b n F M) (hB : B ≤ w.heap.size) (id : Int) (hid : (Lit.int .i64 id).wf = true) : Calls Try.prog 14 #[.map (some b), .int .i64 id] w (TwoQ w B b n F M (AcceptR F id)) := by
  have HP := Lib.hid h.refl
  cases ha : at1 F id with
  | none =>
    have hlk := h.look_none hid ha
    have HR : Hid (AcceptR F id 0 4 F) := Lib.hid (.none ha)
    clear h ha
    go_enter Try.func14, Try.ntmps14
    go_wp2
    go_ret2
    exact twoQ HR.out HP.out
  | some x =>
    obtain ⟨i, hi, rfl, hp⟩ := at1_some ha
    have hlk := h.look_some hi hp
    have o := h.ob i x hi hp
    obtain ⟨A0, n0, hv0, hn0, -⟩ := o.q.shape
    have c0 := o.blk.cell 0
    have c4 := o.blk.cell 4
    have hl := o.blk.lt
    have hf4 := o.blk.free 4
    dsimp [Sk.rcells] at c0 c4
    by_cases hk : x.kind = 2
    · rw [hk] at c0
      cases hq : x.q with
      | nil =>
        have HR : Hid (AcceptR F ((i : Int) + 1) 0 9 F) := Lib.hid (.wait ha hk hq)
        rw [hv0, hq] at c4
        dsimp at c4
        clear h hp ha o hk hq
        go_enter Try.func14, Try.ntmps14
        go_wp2
        go_ret2
        exact twoQ HR.out HP.out
      | cons n' r =>
        have HR : Hid (AcceptR F ((i : Int) + 1) n' 0 (put F i (some { x with q := r }))) := Lib.hid (.ok hi rfl hp hk hq)
        have hok := o.ok
        have oq := o.q
        rw [hv0] at oq
        obtain ⟨a, hal⟩ : ∃ a, x.q.length = a := ⟨_, rfl⟩
        have har : r.length = a - 1 := by rw [← hal, hq]; simp
        have ha0 : 0 < a := by rw [← hal, hq]; simp
        have ha4 : a ≤ 4 := by obtain ⟨-, -, -, -, -, k6, k7, -⟩ := hok; omega
        rw [hal] at oq hn0 hv0
        rw [hv0] at c4
        obtain ⟨bq, oo, rfl, -, hcells⟩ := oq.reads.2 ha0
        have cn := hcells 0 (.int .i64 n') (by rw [hq]; rfl)
        have hlq := (oq.lt bq rfl).2
        obtain ⟨A2, hsl, hrow2⟩ := row_cut_run Try.prog (t := 49) (e := 3) Try.underlying49 (by kernel_rfl) (fun W => by kernel_rfl) oq 1 ha0 hn0
        rw [← List.map_drop, hq] at hrow2
        have HSL : Hid (∀ W, (Instr.slice 49 (.slice (some ⟨bq, oo, none⟩) a n0) (some (.int .i64 1)) none none).run Try.prog W = .ok (.slice A2 (a - 1) (n0 - 1)) W) := Lib.hid hsl
        have HRD := Lib.hid (hrow2.reads)
        have HO := Lib.hid o.blk
        have HFIN : Hid (∀ w2 v, Fr Nil w w2 → Row w2 w.heap.size 3 1 v (a - 1) (r.map (Value.int .i64)) → TGo w B b n F M (put F i (some { x with q := r })) (w2.setCell ⟨(M i).b, 4, none⟩ v)) := Lib.hid (fun w2 v hb hr => (h.turn_q hi hp (hb.mono fun _ _ e => e.elim) (v := v) (xs := r) (by rw [har]; exact hr.base_le hB) (fun k hk => .inr (hr.lt k hk).1) (by
          obtain ⟨k1, k2, k3, k4, k5, k6, k7, k8⟩ := hok
          exact ⟨k1, k2, k3, k4, k5, k6, by dsimp only; rw [har]; omega, k8⟩)).go (by omega))
        rw [Nat.add_zero] at cn
        obtain ⟨i0, ii, hz0, hz1, hz2⟩ := info_parts pi64info
        clear h hp ha o hk hq hok oq hrow2 hsl hcells hal hv0 HP har hid
        go_enter Try.func14, Try.ntmps14
        go_wp2_with (first | (refine wpList_slice_lo rfl 49 3 (.tmp 35) (.const (.int .i64 1)) rfl Try.underlying49 _ _ rfl rfl _ (HSL.out _) ?_) | (at_builtin; refine wpList_append_row _ rfl (.tmp 31) (.tmp 36) 49 rfl w.heap.size 3 i0 (.int .i64 0) 1 8 Try.underlying49 ii hz0 hz1 hz2 rfl (by decide) (.slice (some ⟨w.heap.size, 0, none⟩) 0 0) 0 [] rfl ?c1 w.heap.size A2 (a - 1) (n0 - 1) (r.map (Value.int .i64)) rfl ?c2 (i64_oneCell r) ?c3 ?c4 ?c5 ?_; rotate_left; skip))
        case c1 => exact ⟨rfl, .inr ⟨w.heap.size, 0, 0, #[], rfl, Nat.le_refl _, Blk.new w #[] 3, Nat.le_refl _, by simp, by simp, fun j u hu => by simp at hu⟩⟩
        case c2 => exact Reads.alloc HRD.out (Nat.le_refl _) _
        case c3 => unfold maxLen; omega
        case c4 => omega
        case c5 => simp
        intro A' c' w1 hr hg ho
        have hb1 := (HO.out.alloc _).grown hg (by simp [Value.ownBlock]; omega)
        have HG := Lib.hid (HFIN.out w1 _ (((Fr.refl Nil w).alloc _).grown hg (fun k e hk => by simp [Value.ownBlock] at e; omega)) hr)
        clear c0 c4 hf4 hl cn hlq hr hg ho
        have c4 := hb1.cell 4
        have hf4 := hb1.free 4
        have hl := hb1.lt
        dsimp [Sk.rcells] at c4
        clear hb1
        go_wp2
        go_ret2
        exact twoQ HR.out HG.out
    · have HR : Hid (AcceptR F ((i : Int) + 1) 0 8 F) := Lib.hid (.state ha hk)
      have hd3 : (x.kind != 2) = true := by simpa using hk
      clear h hp ha o hk
      go_enter Try.func14, Try.ntmps14
      go_wp2
      go_ret2
      exact twoQ HR.out HP.out
def new3R (W : World) (N : Nat) (port id : Int) : World :=
  ((W.setCell ⟨N, 0, none⟩ (.int .i64 3)).setCell ⟨N, 1, none⟩ (.int .i64 port)).setCell ⟨N, 3, none⟩ (.int .i64 id)
theorem Rr.new3_e (h : Rr w B b n F M) (hi : i < 16) (hp : F i = some p) {port id : Int} (hport : 1 ≤ port ∧ port ≤ 99) (hid : 1 ≤ id ∧ id ≤ 16) : TGe w B b n F M n (put F i (some { p with kind := 3, port := port, peer := id })) M (new3R w (M i).b port id) := by
  have o := h.ob i _ hi hp
  refine h.poke_e hi hp ((((Fr.refl (fun k => k = (M i).b) w).setCell (p := ⟨(M i).b, 0, none⟩) (fun _ => rfl) _).setCell (p := ⟨(M i).b, 1, none⟩) (fun _ => rfl) _).setCell (p := ⟨(M i).b, 3, none⟩) (fun _ => rfl) _) (((o.blk.set 0 (.int .i64 3)).set 1 (.int .i64 port)).set 3 (.int .i64 id)) rfl ?_
  obtain ⟨k1, k2, k3, k4, k5, k6, k7, k8, k9, k10⟩ := o.ok
  exact ⟨by dsimp only; decide, by dsimp only; decide, by dsimp only; omega, by dsimp only; omega, k5, k6, k7, by dsimp only; omega, by dsimp only; omega, k10⟩
theorem Rr.more_e {w9 : World} (h : Rr w B b n F M) (hB : B ≤ w.heap.size) (hi : i < 16) (hp : F i = some p) {m : Int} (hlt : (p.q.length : Int) < p.many) {v : Value} (o1 : Obj) (hg : (w.alloc o1).grownBy w9 (M i).q.ownBlock) (hr : Row w9 B 3 1 v (p.q.length + 1) (p.q.map (Value.int .i64) ++ [.int .i64 m])) (ho : v.ownBlock = (M i).q.ownBlock ∨ v.ownBlock = some (w.heap.size + 1)) : TGe w B b n F M n (put F i (some { p with q := p.q ++ [m] })) (setM M i { M i with q := v }) (w9.setCell ⟨(M i).b, 4, none⟩ v) := by
  have hf : Fr (fun k => (M i).q.ownBlock = some k) w w9 := ((Fr.refl (fun k => (M i).q.ownBlock = some k) w).alloc o1).grown hg (fun k e _ => e)
  have hok := (h.ob i _ hi hp).ok
  exact h.turn_q hi hp hf (v := v) (xs := p.q ++ [m]) (by rw [List.length_append, List.map_append]; exact hr) (fun k hk => by
    rcases ho with e2 | e2
    · left; exact e2.symm.trans hk
    · rw [e2] at hk; injection hk with hk; right; omega) (by
    obtain ⟨k1, k2, k3, k4, k5, k6, k7, k8⟩ := hok
    exact ⟨k1, k2, k3, k4, k5, k6, by dsimp only; rw [List.length_append]; simp; omega, k8⟩)
set_option maxHeartbeats 2000000 in
set_option maxRecDepth 100000 in
theorem rreach_any (h : Rr w B b n F M) (hB : B ≤ w.heap.size) (hn : n < maxLen) (id port : Int) (hid : (Lit.int .i64 id).wf = true) : Calls Try.prog 12 #[.map (some b), .int .i64 id, .int .i64 port] w (NameQ w B b n F M (ReachR F id port)) := by
  have HP := Lib.hid h.refl
  have HBB := Lib.hid hB
  have HGR := Lib.hid (fun w3 (hb : Below w.heap.size w w3) => h.grown hb)
  by_cases h1 : port < 1
  · have hd : decide (port < 1) = true := by simpa using h1
    have HR : Hid (ReachR F id port 1 F) := Lib.hid (.arg (.inl h1))
    clear h h1 hid
    go_enter Try.func12, Try.ntmps12
    go_wp2
    go_ret
    exact nameQ HR.out HP.out
  have hd : decide (port < 1) = false := by simpa using h1
  by_cases h2 : 99 < port
  · have hd2 : decide (99 < port) = true := by simpa using h2
    have HR : Hid (ReachR F id port 1 F) := Lib.hid (.arg (.inr h2))
    clear h h1 h2 hid
    go_enter Try.func12, Try.ntmps12
    go_wp2
    go_ret
    exact nameQ HR.out HP.out
  have hd2 : decide (99 < port) = false := by simpa using h2
  have hport : 1 ≤ port ∧ port ≤ 99 := by omega
  cases ha : at1 F id with
  | none =>
    have hlk := h.look_none hid ha
    have HR : Hid (ReachR F id port 4 F) := Lib.hid (.none hport ha)
    clear h h1 h2 ha hport hid
    go_enter Try.func12, Try.ntmps12
    go_wp2
    go_ret
    exact nameQ HR.out HP.out
  | some x =>
    obtain ⟨j, hj, rfl, hp⟩ := at1_some ha
    clear hid
    have hlk := h.look_some hj hp
    have o := h.ob j x hj hp
    have c0 := o.blk.cell 0
    have hl := o.blk.lt
    dsimp [Sk.rcells] at c0
    by_cases hk : x.kind = 0
    case neg =>
      have HR : Hid (ReachR F ((j : Int) + 1) port 8 F) := Lib.hid (.state hport ha hk)
      have hd3 : decide (0 < x.kind) = true := by have := o.ok.1; simp; omega
      clear h h1 h2 ha hp o hk hport
      go_enter Try.func12, Try.ntmps12
      go_wp2
      go_ret
      exact nameQ HR.out HP.out
    rw [hk] at c0
    rcases named_or F port with hn' | ⟨k, hn'⟩
    · have hV := Lib.hid (hearer_none h hn')
      have HR : Hid (ReachR F ((j : Int) + 1) port 10 F) := Lib.hid (.pipe hport ha hk hn')
      clear h h1 h2 ha hp o hk hport hn'
      go_enter Try.func12, Try.ntmps12
      go_wp2_with fail
      refine hV.out.mono ?_
      rintro x w' ⟨rfl, rfl⟩
      go_wp2
      go_ret
      exact nameQ HR.out HP.out
    have hV := Lib.hid (hearer_some h hn')
    obtain ⟨hk16, ⟨y, hy, hyp, hy3⟩, -⟩ := id hn'
    have oy := h.ob k y hk16 hy
    have d0 := oy.blk.cell 0
    have d2 := oy.blk.cell 2
    have d4 := oy.blk.cell 4
    have hly := oy.blk.lt
    obtain ⟨A0, n0, hv0, hn0, hm0⟩ := oy.q.shape
    dsimp [Sk.rcells] at d0 d2 d4
    rw [hv0] at d4
    by_cases hy2 : y.kind = 2
    case neg =>
      have HR : Hid (ReachR F ((j : Int) + 1) port 10 F) := Lib.hid (.deaf hport ha hk hn' hy hy2)
      have hd3 : decide (y.kind < 2) = true := by have := oy.ok.2.1; simp; omega
      clear h h1 h2 ha hp o hk hport hn' oy hy hyp hy3 hy2 hv0
      go_enter Try.func12, Try.ntmps12
      go_wp2_with fail
      refine hV.out.mono ?_
      rintro x w' ⟨rfl, rfl⟩
      go_wp2
      go_ret
      exact nameQ HR.out HP.out
    rw [hy2] at d0
    obtain ⟨l, hll⟩ : ∃ l, y.q.length = l := ⟨_, rfl⟩
    have hlm : (l : Int) ≤ y.many := by rw [← hll]; exact oy.ok.2.2.2.2.2.2.1
    have hl4 : l ≤ 4 := by have := oy.ok.2.2.2.2.2.1; omega
    rw [hll] at d4 hv0 hn0
    by_cases hq : (l : Int) = y.many
    · have HR : Hid (ReachR F ((j : Int) + 1) port 9 F) := Lib.hid (.wait hport ha hk hn' hy hy2 (by rw [hll]; exact hq))
      rw [← hq] at d2
      clear h h1 h2 ha hp o hk hport hn' oy hy hyp hy3 hy2 hv0 hq hll hlm
      go_enter Try.func12, Try.ntmps12
      go_wp2_with fail
      refine hV.out.mono ?_
      rintro x w' ⟨rfl, rfl⟩
      go_wp2_with fail
      refine wp_region_near w.heap.size (by kernel_rfl) (by kernel_rfl) ?_
      repeat (go_big_quiet_step (fail))
      refine wpQuiet_nil ?_
      intro w3 hb3
      have HP3 : Hid (TGo w B b n F M F w3) := Lib.hid (HGR.out w3 hb3)
      go_wp2
      go_ret
      exact nameQ HR.out HP3.out
    · have hdq : decide (y.many ≤ (l : Int)) = false := by simp; omega
      have H := Lib.hid h
      rcases free_or F with hff | ⟨i, hff⟩
      · have HR : Hid (ReachR F ((j : Int) + 1) port 6 F) := Lib.hid (.full hport ha hk hn' hy hy2 (by rw [hll]; exact hq) hff)
        have HFF := Lib.hid hff
        clear h h1 h2 ha hp o hk hport hn' oy hy hyp hy3 hy2 hv0 hq hll hff hlm
        go_enter Try.func12, Try.ntmps12
        go_wp2_with fail
        refine hV.out.mono ?_
        rintro x w' ⟨rfl, rfl⟩
        go_wp2_with fail
        refine wp_region_near w.heap.size (by kernel_rfl) (by kernel_rfl) ?_
        repeat (go_big_quiet_step (fail))
        refine wpQuiet_nil ?_
        intro w3 hb3
        have HP3 : Hid (TGo w B b n F M F w3) := Lib.hid (HGR.out w3 hb3)
        have HM := Lib.hid (rmade_full (H.out.grow hb3) HFF.out)
        go_wp2_with fail
        refine HM.out.mono ?_
        rintro x w' ⟨rfl, rfl⟩
        go_wp2
        go_ret
        exact nameQ HR.out HP3.out
      · have hr : ReachR F ((j : Int) + 1) port 0 _ := .ok hport hj rfl hp hk hn' hy hy2 (by rw [hll]; exact hq) hff
        have HQL : Hid ((y.q.length : Int) < y.many) := Lib.hid (by rw [hll]; omega)
        have HR := Lib.hid hr
        have HFF := Lib.hid hff
        have HXJ := Lib.hid hp
        have HYK := Lib.hid hy
        have HPB := Lib.hid hport
        have HV0 := Lib.hid hv0
        have HLL := Lib.hid hll
        have HNN := Lib.hid hn
        have hi := hff.1
        have hi' : (i : Int) < 16 := by omega
        have HJK : Hid (j ≠ k) := Lib.hid (fun e => by
          subst e
          rw [hp] at hy
          injection hy with hy
          subst hy
          rw [hk] at hy2
          exact absurd hy2 (by decide))
        have HJI : Hid (j ≠ i) := Lib.hid (fun e => by
          have := hff.2.1
          rw [← e, hp] at this
          exact nomatch this)
        have HKI : Hid (k ≠ i) := Lib.hid (fun e => by
          have := hff.2.1
          rw [← e, hy] at this
          exact nomatch this)
        clear h h1 h2 ha hp o hk hport hn' oy hy hyp hy3 hy2 hv0 hq hll hff hr hlm hn HP
        go_enter Try.func12, Try.ntmps12
        go_wp2_with fail
        refine hV.out.mono ?_
        rintro x w' ⟨rfl, rfl⟩
        go_wp2_with fail
        refine wp_region_near w.heap.size (by kernel_rfl) (by kernel_rfl) ?_
        repeat (go_big_quiet_step (fail))
        refine wpQuiet_nil ?_
        intro w3 hb3
        clear c0 d0 d2 d4 hl hly hlk
        have h3 := H.out.grow hb3
        have HM := Lib.hid (rmade_free h3 HFF.out (Nat.le_trans HBB.out hb3.size) HNN.out)
        have HE3 := Lib.hid (H.out.grown_e hb3)
        clear h3
        go_wp2_with fail
        refine HM.out.mono ?_
        rintro e w4 ⟨rfl, hg4⟩
        have HE4 := Lib.hid (HE3.out.trans hg4)
        have hlk4 := HE4.out.1.look_some HFF.out.1 (put_same F i _)
        have o4 := HE4.out.1.ob i _ HFF.out.1 (put_same F i _)
        rw [setM_same] at hlk4 o4
        have n0 := o4.blk.cell 0
        have n1 := o4.blk.cell 1
        have n3 := o4.blk.cell 3
        have nf0 := o4.blk.free 0
        have nf1 := o4.blk.free 1
        have nf3 := o4.blk.free 3
        have nl := o4.blk.lt
        dsimp [Sk.rcells, Sk.zero] at n0 n1 n3 nf0 nf1 nf3 nl hlk4
        clear o4 hg4 HM
        go_upto_region 17 with fail
        change Code.wp _ _ _ _ (new3R w4 w3.heap.size port ((j : Int) + 1))
        have HE5 := HE4.out.1.new3_e HFF.out.1 (put_same F i _) HPB.out (id := (j : Int) + 1) (by omega)
        rw [setM_same, put_put] at HE5
        replace HE5 := Lib.hid (HE4.out.trans HE5)
        generalize new3R w4 w3.heap.size port ((j : Int) + 1) = W5 at HE5 ⊢
        clear n0 n1 n3 nf0 nf1 nf3 nl hlk4 HE4
        have hx5 := HE5.out.1.ob j _ hj ((put_other F HJI.out _).trans HXJ.out)
        rw [setM_other M HJI.out] at hx5
        have x0 := hx5.blk.cell 0
        have x1 := hx5.blk.cell 1
        have x3 := hx5.blk.cell 3
        have xf0 := hx5.blk.free 0
        have xf1 := hx5.blk.free 1
        have xf3 := hx5.blk.free 3
        have xl := hx5.blk.lt
        dsimp [Sk.rcells] at x0 x1 x3
        clear hx5
        go_upto_region 18 with fail
        change Code.wp _ _ _ _ (new3R W5 (M j).b port ((i : Int) + 1))
        have HE6 := HE5.out.1.new3_e hj ((put_other F HJI.out _).trans HXJ.out) HPB.out (id := (i : Int) + 1) (by omega)
        rw [setM_other M HJI.out] at HE6
        replace HE6 := Lib.hid (HE5.out.trans HE6)
        generalize new3R W5 (M j).b port ((i : Int) + 1) = W6 at HE6 ⊢
        clear x0 x1 x3 xf0 xf1 xf3 xl HE5
        have hy6 := HE6.out.1.ob k _ hk16 ((put_other _ (Ne.symm HJK.out) _).trans ((put_other F HKI.out _).trans HYK.out))
        rw [setM_other M HKI.out] at hy6
        have y4 := hy6.blk.cell 4
        have yl := hy6.blk.lt
        have hyq := hy6.q
        dsimp [Sk.rcells] at y4
        rw [HV0.out] at y4 hyq
        rw [HLL.out] at hyq
        have HROW := Lib.hid hyq
        have HBK := Lib.hid hy6.blk
        have HS6 : Hid (B ≤ W6.heap.size) := Lib.hid (Nat.le_trans HBB.out HE6.out.2.1.size)
        clear hy6 hyq
        obtain ⟨i0, ii, hz0, hz1, hz2⟩ := info_parts pi64info
        go_wp2_with (at_builtin; refine wpList_append_row _ rfl (.tmp 89) (.tmp 91) 49 rfl B 3 i0 (.int .i64 0) 1 8 Try.underlying49 ii hz0 hz1 hz2 rfl (by decide) (.slice A0 l n0) l (y.q.map (Value.int .i64)) rfl (HROW.out.alloc _) (W6.heap.size + 1) (some ⟨W6.heap.size, 0, none⟩) 1 1 [.int .i64 ((i : Int) + 1)] rfl ?c1 (by simp [Value.oneCell']) (by unfold maxLen; omega) (by omega) ?c2 ?_; rotate_left; skip)
        case c1 => exact ⟨rfl, fun _ => ⟨W6.heap.size, 0, rfl, by omega, fun j u hu => by rw [Nat.zero_add]; rw [(Blk.new W6 #[.int .i64 ((i : Int) + 1)] 3).cell]; simpa using hu⟩⟩
        case c2 => have := HS6.out; simp; omega
        intro A9 c9 w9 hr9 hg9 ho9
        have HM := HE6.out.1.more_e HS6.out hk16 ((put_other _ (Ne.symm HJK.out) _).trans ((put_other F HKI.out _).trans HYK.out)) HQL.out (m := (i : Int) + 1) (v := .slice A9 (l + 1) c9) _ (by rw [setM_other M HKI.out, HV0.out]; exact hg9) (by rw [HLL.out]; exact hr9) (by rw [setM_other M HKI.out, HV0.out]; simpa using ho9)
        rw [setM_other M HKI.out] at HM
        replace HM := Lib.hid ((HE6.out.trans HM).go (by omega))
        have hb9 := (HBK.out.alloc _).fr (Fr.of_grown hg9) (pp_row_blk HROW.out HBK.out (by decide))
        have z4 := hb9.cell 4
        have zf := hb9.free 4
        have zl := hb9.lt
        dsimp [Sk.rcells] at z4
        clear hb9 hr9 hg9 ho9 y4 yl
        go_wp2
        go_ret
        exact nameQ HR.out HM.out
end
end Go.Proofs.Ytmoanemhjcdjkaa
