/- Contracts of sameToken, sameTokens at tokens that say the same. -/
import Derived.Test.YtdhepkljidpigaaWdP
namespace Go.Proofs.Ytdhepkljidpigaa
open Go.RowKit
set_option maxHeartbeats 400000
set_option linter.unusedVariables false
set_option linter.unusedSimpArgs false
def Tm.vals (m : Tm) : Array Value := #[.string m.op, .slice m.A m.n m.c, .int .i64 m.k]
/-- A slice of tokens that reads so, below block B. -/
def TF (w : World) (B : Nat) (A : Option Addr) (n : Nat) (ms : List Tm) : Prop := RS Tm.cells 3 w B A n ms ∧ ∀ m ∈ ms, RS Pt.cells 3 w B m.A m.n m.ps
theorem TF.below' {w w' : World} {B B' n : Nat} {A : Option Addr} {ms : List Tm} (h : TF w B A n ms) (hb : Below B' w w') (hB : B ≤ B') : TF w' B A n ms := ⟨h.1.below' hb hB, fun m hm => (h.2 m hm).below' hb hB⟩
theorem TF.more {w : World} {B B' n : Nat} {A : Option Addr} {ms : List Tm} (h : TF w B A n ms) (hB : B ≤ B') : TF w B' A n ms := ⟨h.1.more hB, fun m hm => (h.2 m hm).more hB⟩
theorem TS.tf {w : World} {B n c : Nat} {A : Option Addr} {ms : List Tm} (h : TS w B A n c ms) : TF w w.heap.size A n ms := ⟨⟨h.row.reads, h.len⟩, fun m hm => (h.parts m hm).rs⟩
set_option maxHeartbeats 2000000 in
set_option maxRecDepth 100000 in
theorem sameToken_same (m m' : Tm) (w : World) (B : Nat) (h : RS Pt.cells 3 w B m.A m.n m.ps) (h' : RS Pt.cells 3 w B m'.A m'.n m'.ps) (hB : B ≤ w.heap.size) (hs : m'.tk = m.tk) (hn : m.n ≤ 9223372036854775807) :
    Calls Try.prog 15 #[.agg m.vals, .agg m'.vals] w (SameB true w) := by
  obtain ⟨op, A, n, c, ps, k⟩ := m
  obtain ⟨op', A', n', c', ps', k'⟩ := m'
  unfold Tm.tk at hs
  dsimp only at hs h h' hn
  injection hs with e1 e2 e3
  subst e1; subst e2; subst e3
  have hl := h.2
  have hl' := h'.2
  obtain rfl : n' = n := by omega
  clear hl hl'
  unfold Tm.vals
  dsimp only
  have hnn : (op'.toList != op'.toList) = false := by simp
  have hx0 := Blk.new w #[.string op', .slice A n' c, .int .i64 k'] 36
  obtain ⟨w1, hw1⟩ : ∃ W, W = w.alloc (.cells #[.string op', .slice A n' c, .int .i64 k'] 36) := ⟨_, rfl⟩
  have hx1 := Blk.new w1 #[.string op', .slice A' n' c', .int .i64 k'] 36
  obtain ⟨w2, hw2⟩ : ∃ W, W = w1.alloc (.cells #[.string op', .slice A' n' c', .int .i64 k'] 36) := ⟨_, rfl⟩
  have hs1 : w1.heap.size = w.heap.size + 1 := by rw [hw1]; simp
  rw [← hw1] at hx0
  have hx2 := hx0.alloc (.cells #[.string op', .slice A' n' c', .int .i64 k'] 36)
  rw [← hw2] at hx1 hx2
  have hb2 : Below w.heap.size w w2 := by rw [hw2, hw1]; exact ((Below.refl _ _).alloc (Nat.le_refl _) _).alloc (by simp) _
  rw [hs1] at hx1
  have HW := Lib.hid (show w2 = (w.alloc (.cells #[.string op', .slice A n' c, .int .i64 k'] 36)).alloc (.cells #[.string op', .slice A' n' c', .int .i64 k'] 36) by rw [hw2, hw1])
  have y0 := hx2.cell
  have y1 := hx1.cell
  have l0 := hx2.lt
  have l1 := hx1.lt
  clear hw1 hw2 hx0 hs1
  go_enter Try.func15, Try.ntmps15
  go_upto_region 1 with fail
  rw [← HW.out]
  generalize w.heap.size + 1 = g1 at *
  have hbs : Hid (B ≤ w.heap.size) := Lib.hid hB
  have hb2' := Lib.hid hb2
  have H2 := Lib.hid (h.below' hb2 hB)
  have H2' := Lib.hid (h'.below' hb2 hB)
  have hsz := hb2.size
  generalize hg0 : w.heap.size = g0 at *
  have HG := Lib.hid hg0
  clear h h' hb2 HW hg0
  go_wp2
  go_loopw [30] (fun i wr => ∃ j : Nat, j ≤ n' ∧ i = .int .i64 j ∧ Below w2.heap.size w2 wr) (fun i _ => n' - (intOf i).toNat)
  case atStart => exact ⟨0, by omega, rfl, Below.refl _ _⟩
  case round =>
    obtain ⟨j, hj, rfl, hbw⟩ := hrel
    by_cases hjn : j < n'
    · obtain ⟨b, o, rfl, hb, hm, hcs⟩ := RS.at_ (cl := Pt.cells) (s := 3) (fun _ => rfl) Pt.zero (H2.out.below' hbw (by omega)) hjn
      obtain ⟨b', o', rfl, hb', hm', hcs'⟩ := RS.at_ (cl := Pt.cells) (s := 3) (fun _ => rfl) Pt.zero (H2'.out.below' hbw (by omega)) hjn
      have x0 := hcs 0 _ rfl
      have x1 := hcs 1 _ rfl
      have x2 := hcs 2 _ rfl
      have x0' := hcs' 0 _ rfl
      have x1' := hcs' 1 _ rfl
      have x2' := hcs' 2 _ rfl
      clear hcs hcs' hm hm'
      generalize ps'.getD j Pt.zero = p at *
      obtain ⟨pt, pv, pq⟩ := p
      dsimp only at x0 x1 x2 x0' x1' x2'
      rw [Nat.add_zero] at x0 x0'
      have z0 := (hbw.cell (p := ⟨g0, 1, none⟩) l0).trans (y0 1)
      have z1 := (hbw.cell (p := ⟨g1, 1, none⟩) l1).trans (y1 1)
      have hpt : (pt.toList == pt.toList) = true := by simp
      have hkn : (j : Int) < n' := by omega
      have hk0 : (0 : Int) ≤ j := by omega
      clear y0 y1
      go_wp2_with fail
      refine wp_region_quiet_lit (by kernel_rfl) (by kernel_rfl) ?_
      repeat (go_big_quiet_step (fail))
      refine wpQuiet_nil ?_
      rintro w4 ⟨kn, rfl⟩
      go_wp2
      go_roundw
      case rel => exact ⟨j + 1, by omega, by go_num, _root_.Go.below_drewN hbw _⟩
      case measure => simp [intOf]; omega
    · obtain rfl : j = n' := by omega
      go_wp2
      go_ret
      exact ⟨rfl, by rw [HG.out]; exact hb2'.out.trans (hbw.mono hsz)⟩
/-- A call of a Go function as one step of a region that draws its order. -/
theorem step_call_go2 {P : Program} {ops : Array Oper} {o : Oper} {a : Act} {w : World} {K : Act → World → Prop} {Q : Exit → Act → World → Prop} {E : Prop} (hgd : o.guard = none) (f : FuncId) (xs : Array Operand) (ats : Array TypeId)
    (ho : o.op = .call { callee := .value (.func f), args := xs, argTypes := ats }) (args : Array Value) (hargs : xs.map a.eval = args) (hrun : (callFunc f args).run P w = .ok (.enter f args) w) (Φ : Value → World → Prop)
    (hC : Calls P f args w fun e w' => ∃ v, e = .returned v ∧ Φ v w') (h : ∀ v w', Φ v w' → K (a.put o.dst v) w') : if Region.wanted o (yielded ops a.tmps) = true then Oper.wp P o a w K Q else E := by
  have hw : Region.wanted o (yielded ops a.tmps) = true := by simp [Region.wanted, hgd]
  rw [if_pos hw]
  unfold Oper.wp
  have e : execOp a.eval o = callFunc f args := by
    obtain ⟨dst, op, ty, pos, after, guard⟩ := o
    dsimp only at ho
    subst ho
    rw [execOp_call_go, hargs]
    simp
  rw [e, hrun, Oper.upon_enter]
  refine hC.mono ?_
  rintro e' w' ⟨v, rfl, hΦ⟩
  exact h v w' hΦ
theorem sameTokens_len {ms ms' : List Tm} (h : ms'.map Tm.tk = ms.map Tm.tk) : ms'.length = ms.length := by
  have := congrArg List.length h
  simpa using this
theorem tk_at {ms ms' : List Tm} (h : ms'.map Tm.tk = ms.map Tm.tk) {i : Nat} (hi : i < ms.length) : (ms'.getD i .zero).tk = (ms.getD i .zero).tk := by
  have hl := sameTokens_len h
  have := congrArg (fun l => l[i]?) h
  simp only [List.getElem?_map] at this
  rw [List.getD_eq_getElem?_getD, List.getD_eq_getElem?_getD, List.getElem?_eq_getElem hi, List.getElem?_eq_getElem (by omega : i < ms'.length)] at *
  simpa using this
set_option maxHeartbeats 2000000 in
set_option maxRecDepth 100000 in
theorem sameTokens_same (A A' : Option Addr) (n c n' c' : Nat) (ms ms' : List Tm) (w : World) (h : TF w w.heap.size A n ms) (h' : TF w w.heap.size A' n' ms') (hs : ms'.map Tm.tk = ms.map Tm.tk) (hn : n ≤ 1000) (hp : ∀ m ∈ ms, m.n ≤ 9223372036854775807) :
    Calls Try.prog 6 #[.slice A n c, .slice A' n' c'] w (SameB true w) := by
  have hl := h.1.2
  have hl' := h'.1.2
  obtain rfl : n' = n := by have := sameTokens_len hs; omega
  have HS := Lib.hid hs
  have HL := Lib.hid hl
  clear hl hl' hs
  go_enter Try.func6, Try.ntmps6
  go_wp2
  go_loopw [13] (fun i wr => ∃ k : Nat, k ≤ n' ∧ i = .int .i64 k ∧ Below w.heap.size w wr) (fun i _ => n' - (intOf i).toNat)
  case atStart => exact ⟨0, by omega, rfl, Below.refl _ _⟩
  case round =>
    obtain ⟨k, hk, rfl, hbw⟩ := hrel
    have hsw := hbw.size
    by_cases hkn : k < n'
    · have hq := h.below' hbw (Nat.le_refl _)
      have hq' := h'.below' hbw (Nat.le_refl _)
      obtain ⟨b, o, rfl, hb, hm, hcs⟩ := RS.at_ (cl := Tm.cells) (s := 3) (fun _ => rfl) Tm.zero hq.1 hkn
      obtain ⟨b', o', rfl, hb', hm', hcs'⟩ := RS.at_ (cl := Tm.cells) (s := 3) (fun _ => rfl) Tm.zero hq'.1 hkn
      have htk := tk_at HS.out (i := k) (by rw [HL.out]; exact hkn)
      have x0 := hcs 0 _ rfl
      have x1 := hcs 1 _ rfl
      have x2 := hcs 2 _ rfl
      have x0' := hcs' 0 _ rfl
      have x1' := hcs' 1 _ rfl
      have x2' := hcs' 2 _ rfl
      have hpm := hp _ hm
      have hrm := hq.2 _ hm
      have hrm' := hq'.2 _ hm'
      clear hcs hcs' hm hm' hq hq'
      generalize ms.getD k .zero = m at *
      generalize ms'.getD k .zero = m' at *
      have HC := Lib.hid (fun (W : World) (hb : Below w.heap.size wr W) => sameToken_same m m' W w.heap.size (hrm.below' hb (Nat.le_refl _)) (hrm'.below' hb (Nat.le_refl _)) (Nat.le_trans hsw hb.size) htk hpm)
      clear hrm hrm' htk
      obtain ⟨op, Am, nm, cm, pm, km⟩ := m
      obtain ⟨op', Am', nm', cm', pm', km'⟩ := m'
      unfold Tm.vals at HC
      dsimp only at x0 x1 x2 x0' x1' x2' HC
      rw [Nat.add_zero] at x0 x0'
      have hkn' : (k : Int) < n' := by omega
      have hk0 : (0 : Int) ≤ k := by omega
      unfold SameB at HC
      go_wp2_with fail
      refine wp_region_near w.heap.size (by kernel_rfl) (by kernel_rfl) ?_
      repeat (go_big_quiet_step (first | (go_at_call 15; exact Calls.near (Nat.le_trans hsw (Near.size _)) (HC.out _ (Near.prop _)))))
      refine wpQuiet_nil ?_
      intro w4 hb4
      have hbn := hbw.trans hb4
      clear hb4
      go_wp2
      go_roundw
      case rel => exact ⟨k + 1, by omega, by go_num, hbn⟩
      case measure => simp [intOf]; omega
    · obtain rfl : k = n' := by omega
      go_wp2
      go_ret
      exact ⟨rfl, hbw⟩
end Go.Proofs.Ytdhepkljidpigaa
