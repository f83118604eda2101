/- Contracts of the pipes' More, Less, Tell. -/
import Derived.Test.YthlhjaacjhlkhaaPpC
import Derived.Deep.RegionWith
import Derived.Laws.StructEq
namespace Go.Proofs.Ythlhjaacjhlkhaa
open Go.RowKit
set_option maxHeartbeats 400000
set_option linter.unusedVariables false
set_option linter.unusedSimpArgs false
theorem turnE_err {F : Fs} {id e by_ x : Int} (h : errE F id e = x) (h0 : x ≠ 0) : turnE F id e by_ = x ∧ turnF F id e by_ = F := by
  have h1 : turnE F id e by_ = x := by unfold turnE; rw [if_pos (by rw [h]; exact h0), h]
  exact ⟨h1, by unfold turnF; rw [if_pos (by rw [h1]; exact h0)]⟩
theorem turnE_ok {F : Fs} {i : Nat} {e by_ : Int} {p : Pp} (hi : i < 16) (hp : F i = some p) (h : errE F ((i : Int) + 1) e = 0) :
    (64 < p.at_ e + by_ ∧ turnE F ((i : Int) + 1) e by_ = 6 ∧ turnF F ((i : Int) + 1) e by_ = F) ∨ (¬ 64 < p.at_ e + by_ ∧ turnE F ((i : Int) + 1) e by_ = 0 ∧ turnF F ((i : Int) + 1) e by_ = put F i (afterP (p.add e by_))) := by
  have ha : at1 F ((i : Int) + 1) = some p := (at1_of hi).trans hp
  by_cases hh : 64 < p.at_ e + by_
  · have h1 : turnE F ((i : Int) + 1) e by_ = 6 := by unfold turnE; rw [if_neg (by rw [h]; simp), ha]; simp [hh]
    exact .inl ⟨hh, h1, by unfold turnF; rw [if_pos (by rw [h1]; decide)]⟩
  · have h1 : turnE F ((i : Int) + 1) e by_ = 0 := by unfold turnE; rw [if_neg (by rw [h]; simp), ha]; simp [hh]
    refine .inr ⟨hh, h1, ?_⟩
    unfold turnF
    rw [if_neg (by rw [h1]; simp), ha, show ((i : Int) + 1 - 1).toNat = i by omega]
theorem RGo.drew {w w' : World} {B g : Nat} {F F' : Fs} {b : Nat → Nat} {v : Nat → Value} (h : RGo w B g F b v F' w') : RGo w B g F b v F' w'.drew := by
  obtain ⟨b', v', h1, f1, o1⟩ := h
  exact ⟨b', v', h1.grow (Below.refl _ _).drew, f1.drew, o1⟩
theorem put_put (F : Fs) (i : Nat) (x y : Option Pp) : put (put F i x) i y = put F i y := by
  funext j
  unfold put
  split <;> rfl
theorem eqin116 (d : Nat) (a b : Int) (w : World) : (Op.equalIn (d + 2) 116 (.agg #[.int .i64 a, .int .i64 b]) (.agg #[.int .i64 0, .int .i64 0])).run Try.prog w = .ok (decide (a = 0 ∧ b = 0)) w := by
  rw [Op.equalIn]
  simp only [Sem.run_bind, run_underlying Try.underlying116, Result.andThen_ok]
  have hs : (sizeOf 3).run Try.prog w = .ok 1 w := by kernel_rfl
  simp [hs, List.range', part, Op.equalIn, run_underlying Try.underlying3, go_sem]
  by_cases ha : a = 0 <;> by_cases hb : b = 0 <;> simp [ha, hb, go_sem, Result.andThen]
theorem run_eq116 (a b : Int) (w : World) : (binOp .eql 116 (.agg #[.int .i64 a, .int .i64 b]) (.agg #[.int .i64 0, .int .i64 0])).run Try.prog w = .ok (.bool (decide (a = 0 ∧ b = 0))) w := by
  rw [run_eql_struct, eqin116]; rfl
def RetT (w : World) (B g : Nat) (F : Fs) (b : Nat → Nat) (v : Nat → Value) (x : Int) (F' : Fs) (e : Ending) (w' : World) : Prop := e = .returned (.int .i64 x) ∧ RGo w B g F b v F' w'
section
variable {w : World} {B g : Nat} {F : Fs} {b : Nat → Nat} {v : Nat → Value} {i : Nat} {p : Pp}
/-- One cell of one object is set. -/
theorem Re.put0 (h : Re w B g F b v) (hi : i < 16) (hp : F i = some p) {x : Int} (hx : 0 ≤ x ∧ x ≤ 64) : RGo w B g F b v (Ythlhjaacjhlkhaa.put F i (some { p with r := x })) (w.setCell ⟨b i, 0, none⟩ (.int .i64 x)) := by
  obtain ⟨o1, o2, o3, o4⟩ := h.ob i p hi hp
  have hf : Fr (fun k => k = b i) w (w.setCell ⟨b i, 0, none⟩ (.int .i64 x)) := (Fr.refl (fun k => k = b i) w).setCell (p := ⟨b i, 0, none⟩) (fun _ => rfl) _
  refine h.put hi hp (x := v i) (p' := { p with r := x }) (hf.mono fun k _ e => .inl e) ?_ (o2.fr hf (fun k hk e => pp_row_blk o2 o1 (by decide) (e ▸ hk))) (fun k hk => .inl hk) ⟨hx.1, hx.2, o4.2.2⟩
  have := o1.set 0 (.int .i64 x)
  simpa using this
theorem Re.put1 (h : Re w B g F b v) (hi : i < 16) (hp : F i = some p) {x : Int} (hx : 0 ≤ x ∧ x ≤ 64) : RGo w B g F b v (Ythlhjaacjhlkhaa.put F i (some { p with w := x })) (w.setCell ⟨b i, 1, none⟩ (.int .i64 x)) := by
  obtain ⟨o1, o2, o3, o4⟩ := h.ob i p hi hp
  have hf : Fr (fun k => k = b i) w (w.setCell ⟨b i, 1, none⟩ (.int .i64 x)) := (Fr.refl (fun k => k = b i) w).setCell (p := ⟨b i, 1, none⟩) (fun _ => rfl) _
  refine h.put hi hp (x := v i) (p' := { p with w := x }) (hf.mono fun k _ e => .inl e) ?_ (o2.fr hf (fun k hk e => pp_row_blk o2 o1 (by decide) (e ▸ hk))) (fun k hk => .inl hk) ⟨o4.1, o4.2.1, hx.1, hx.2, o4.2.2.2.2⟩
  have := o1.set 1 (.int .i64 x)
  simpa using this
set_option maxRecDepth 100000 in
theorem more_any (h : Re w B g F b v) (id e : Int) : Calls Try.prog 27 #[.pointer (some ⟨g, 0, none⟩), .int .i64 id, .int .i64 e] w (RetT w B g F b v (turnE F id e 1) (turnF F id e 1)) := by
  by_cases h0 : errE F id e = 0
  · obtain ⟨i, p, hi, rfl, hp, he, hz, ha⟩ := errE_zero h0
    have HE := Lib.hid (end_ok h hi hp he hz)
    obtain ⟨o1, o2, o3, o4⟩ := h.ob i p hi hp
    obtain ⟨k1, k2, k3, k4, k5, k6⟩ := o4
    have c0 := o1.cell 0
    have c1 := o1.cell 1
    have f0 := o1.free 0
    have f1 := o1.free 1
    have hl := o1.lt
    dsimp at c0 c1
    have HP := Lib.hid h.refl
    rcases turnE_ok (by_ := 1) hi hp h0 with ⟨hh, h1, h2⟩ | ⟨hh, h1, h2⟩
    · rw [h1, h2]
      rcases he with rfl | rfl
      · have hr : p.r = 64 := by simp only [Pp.at_, if_true] at hh; omega
        rw [hr] at c0
        clear h hp hh hz h0 h1 h2 ha
        go_enter Try.func27, Try.ntmps27
        go_wp2_with fail
        refine HE.out.mono ?_
        rintro x w' ⟨rfl, rfl⟩
        go_wp2
        go_ret
        exact ⟨rfl, HP.out⟩
      · have hr : p.w = 64 := by simp [Pp.at_] at hh; omega
        rw [hr] at c1
        clear h hp hh hz h0 h1 h2 ha
        go_enter Try.func27, Try.ntmps27
        go_wp2_with fail
        refine HE.out.mono ?_
        rintro x w' ⟨rfl, rfl⟩
        go_wp2
        go_ret
        exact ⟨rfl, HP.out⟩
    · rw [h1, h2]
      rcases he with rfl | rfl
      · have hr : p.r ≤ 63 := by simp only [Pp.at_, if_true] at hh; omega
        have hd : (p.r == 64) = false := by simp; omega
        have HG : Hid (RGo w B g F b v (put F i (afterP (p.add 0 1))) (w.setCell ⟨b i, 0, none⟩ (.int .i64 (p.r + 1)))) := Lib.hid (by
          have e1 : afterP (p.add 0 1) = some { p with r := p.r + 1 } := by unfold afterP Pp.add; simp; omega
          rw [e1]; exact h.put0 hi hp (by omega))
        clear h hp hh hz h0 h1 h2 ha
        go_enter Try.func27, Try.ntmps27
        go_wp2_with fail
        refine HE.out.mono ?_
        rintro x w' ⟨rfl, rfl⟩
        go_wp2_with fail
        go_region
        all_goals
          go_wp2
          go_ret
          exact ⟨rfl, HG.out.drew⟩
      · have hr : p.w ≤ 63 := by simp [Pp.at_] at hh; omega
        have hd : (p.w == 64) = false := by simp; omega
        have HG : Hid (RGo w B g F b v (put F i (afterP (p.add 1 1))) (w.setCell ⟨b i, 1, none⟩ (.int .i64 (p.w + 1)))) := Lib.hid (by
          have e1 : afterP (p.add 1 1) = some { p with w := p.w + 1 } := by unfold afterP Pp.add; simp; omega
          rw [e1]; exact h.put1 hi hp (by omega))
        clear h hp hh hz h0 h1 h2 ha
        go_enter Try.func27, Try.ntmps27
        go_wp2_with fail
        refine HE.out.mono ?_
        rintro x w' ⟨rfl, rfl⟩
        go_wp2_with fail
        go_region
        all_goals
          go_wp2
          go_ret
          exact ⟨rfl, HG.out.drew⟩
  · obtain ⟨x, hx⟩ : ∃ x, errE F id e = x := ⟨_, rfl⟩
    rw [hx] at h0
    obtain ⟨h1, h2⟩ := turnE_err (by_ := 1) hx h0
    rw [h1, h2]
    have HE := Lib.hid (end_err h hx h0)
    have HP := Lib.hid h.refl
    have hd : (x != 0) = true := by simpa using h0
    clear h hx h0 h1 h2
    go_enter Try.func27, Try.ntmps27
    go_wp2_with fail
    refine HE.out.mono ?_
    rintro y w' ⟨rfl, rfl⟩
    go_wp2
    go_ret
    exact ⟨rfl, HP.out⟩
set_option maxRecDepth 100000 in
theorem less_any (h : Re w B g F b v) (id e : Int) : Calls Try.prog 29 #[.pointer (some ⟨g, 0, none⟩), .int .i64 id, .int .i64 e] w (RetT w B g F b v (turnE F id e (-1)) (turnF F id e (-1))) := by
  by_cases h0 : errE F id e = 0
  · obtain ⟨i, p, hi, rfl, hp, he, hz, ha⟩ := errE_zero h0
    have HE := Lib.hid (end_ok h hi hp he hz)
    obtain ⟨o1, o2, o3, o4⟩ := h.ob i p hi hp
    obtain ⟨k1, k2, k3, k4, k5, k6⟩ := o4
    have c0 := o1.cell 0
    have c1 := o1.cell 1
    have f0 := o1.free 0
    have f1 := o1.free 1
    have hl := o1.lt
    have g0 := (h.blk.cell i).trans (cellsA_at F b hi)
    have gf := h.blk.free i
    have gl := h.blk.lt
    have hi' : (i : Int) < 16 := by omega
    have hgb : g ≠ b i := pp_blk_ne h.blk o1 (by decide)
    have hbg : b i ≠ g := Ne.symm hgb
    dsimp at c0 c1
    rcases turnE_ok (by_ := -1) hi hp h0 with ⟨hh, h1, h2⟩ | ⟨hh, h1, h2⟩
    · exfalso
      rcases he with rfl | rfl <;> simp [Pp.at_] at hh <;> omega
    · rw [h1, h2]
      rcases he with rfl | rfl
      · have hr : 1 ≤ p.r := by simp [Pp.at_] at hz; omega
        have HP : Hid (RGo w B g F b v (put F i (some { p with r := p.r - 1 })) (w.setCell ⟨b i, 0, none⟩ (.int .i64 (p.r - 1)))) := Lib.hid (h.put0 hi hp (by omega))
        by_cases hzz : p.r - 1 = 0 ∧ p.w = 0
        · have hrun := fun w => run_eq116 (p.r - 1) (p.w) w
          rw [show decide (p.r - 1 = 0 ∧ p.w = 0) = true by simpa using hzz] at hrun
          have HG : Hid (RGo w B g F b v (put F i (afterP (p.add 0 (-1)))) ((w.setCell ⟨b i, 0, none⟩ (.int .i64 (p.r - 1))).setCell ⟨g, i, none⟩ (.pointer none))) := Lib.hid (by
            have e1 : afterP (p.add 0 (-1)) = none := by unfold afterP Pp.add; simp; omega
            have := HP.out.trans (fun b1 v1 m1 => m1.del hi)
            rw [put_put] at this
            rw [e1]; exact this)
          clear h hp hh hz h0 h1 h2 ha HP hzz
          go_enter Try.func29, Try.ntmps29
          go_wp2_with fail
          refine HE.out.mono ?_
          rintro x w' ⟨rfl, rfl⟩
          go_wp2_with fail
          go_region
          all_goals
            go_wp2
            go_ret
            exact ⟨rfl, HG.out.drew⟩
        · have hrun := fun w => run_eq116 (p.r - 1) (p.w) w
          rw [show decide (p.r - 1 = 0 ∧ p.w = 0) = false by simpa using hzz] at hrun
          have HG : Hid (RGo w B g F b v (put F i (afterP (p.add 0 (-1)))) (w.setCell ⟨b i, 0, none⟩ (.int .i64 (p.r - 1)))) := Lib.hid (by
            have e1 : afterP (p.add 0 (-1)) = some { p with r := p.r - 1 } := by unfold afterP Pp.add; simp; omega
            rw [e1]; exact HP.out)
          clear h hp hh hz h0 h1 h2 ha HP hzz
          go_enter Try.func29, Try.ntmps29
          go_wp2_with fail
          refine HE.out.mono ?_
          rintro x w' ⟨rfl, rfl⟩
          go_wp2_with fail
          go_region
          all_goals
            go_wp2
            go_ret
            exact ⟨rfl, HG.out.drew⟩
      · have hr : 1 ≤ p.w := by simp [Pp.at_] at hz; omega
        have HP : Hid (RGo w B g F b v (put F i (some { p with w := p.w - 1 })) (w.setCell ⟨b i, 1, none⟩ (.int .i64 (p.w - 1)))) := Lib.hid (h.put1 hi hp (by omega))
        by_cases hzz : p.r = 0 ∧ p.w - 1 = 0
        · have hrun := fun w => run_eq116 (p.r) (p.w - 1) w
          rw [show decide (p.r = 0 ∧ p.w - 1 = 0) = true by simpa using hzz] at hrun
          have HG : Hid (RGo w B g F b v (put F i (afterP (p.add 1 (-1)))) ((w.setCell ⟨b i, 1, none⟩ (.int .i64 (p.w - 1))).setCell ⟨g, i, none⟩ (.pointer none))) := Lib.hid (by
            have e1 : afterP (p.add 1 (-1)) = none := by unfold afterP Pp.add; simp; omega
            have := HP.out.trans (fun b1 v1 m1 => m1.del hi)
            rw [put_put] at this
            rw [e1]; exact this)
          clear h hp hh hz h0 h1 h2 ha HP hzz
          go_enter Try.func29, Try.ntmps29
          go_wp2_with fail
          refine HE.out.mono ?_
          rintro x w' ⟨rfl, rfl⟩
          go_wp2_with fail
          go_region
          all_goals
            go_wp2
            go_ret
            exact ⟨rfl, HG.out.drew⟩
        · have hrun := fun w => run_eq116 (p.r) (p.w - 1) w
          rw [show decide (p.r = 0 ∧ p.w - 1 = 0) = false by simpa using hzz] at hrun
          have HG : Hid (RGo w B g F b v (put F i (afterP (p.add 1 (-1)))) (w.setCell ⟨b i, 1, none⟩ (.int .i64 (p.w - 1)))) := Lib.hid (by
            have e1 : afterP (p.add 1 (-1)) = some { p with w := p.w - 1 } := by unfold afterP Pp.add; simp; omega
            rw [e1]; exact HP.out)
          clear h hp hh hz h0 h1 h2 ha HP hzz
          go_enter Try.func29, Try.ntmps29
          go_wp2_with fail
          refine HE.out.mono ?_
          rintro x w' ⟨rfl, rfl⟩
          go_wp2_with fail
          go_region
          all_goals
            go_wp2
            go_ret
            exact ⟨rfl, HG.out.drew⟩
  · obtain ⟨x, hx⟩ : ∃ x, errE F id e = x := ⟨_, rfl⟩
    rw [hx] at h0
    obtain ⟨h1, h2⟩ := turnE_err (by_ := -1) hx h0
    rw [h1, h2]
    have HE := Lib.hid (end_err h hx h0)
    have HP := Lib.hid h.refl
    have hd : (x != 0) = true := by simpa using h0
    clear h hx h0 h1 h2
    go_enter Try.func29, Try.ntmps29
    go_wp2_with fail
    refine HE.out.mono ?_
    rintro y w' ⟨rfl, rfl⟩
    go_wp2
    go_ret
    exact ⟨rfl, HP.out⟩
/-- 'Tell' and 'Told': who reads, who writes, how much is on its way, which error. -/
def toldV (F : Fs) (id : Int) : Value := match at1 F id with | none => .tuple #[.int .i64 0, .int .i64 0, .int .i64 0, .int .i64 4] | some p => .tuple #[.int .i64 p.r, .int .i64 p.w, .int .i64 (p.bs.length : Nat), .int .i64 0]
def RetV (w : World) (x : Value) (e : Ending) (w' : World) : Prop := e = .returned x ∧ Below w.heap.size w w'
theorem retv {w w' : World} {x y : Value} (e : x = y) (h : Below w.heap.size w w') : RetV w x (.returned y) w' := ⟨by rw [e], h⟩
set_option maxRecDepth 100000 in
theorem tell_any (h : Re w B g F b v) (id : Int) : Calls Try.prog 34 #[.pointer (some ⟨g, 0, none⟩), .int .i64 id] w (RetV w (toldV F id)) := by
  cases ha : at1 F id with
  | none =>
    have HF := Lib.hid (find_none h ha)
    have HV : Hid (toldV F id = .tuple #[.int .i64 0, .int .i64 0, .int .i64 0, .int .i64 4]) := Lib.hid (by unfold toldV; rw [ha])
    clear h ha
    go_enter Try.func34, Try.ntmps34
    go_wp2_with fail
    refine HF.out.mono ?_
    rintro x w' ⟨rfl, rfl⟩
    go_wp2
    exact bodyPost_ret (v := .tuple #[.int .i64 0, .int .i64 0, .int .i64 0, .int .i64 4]) (by simp [results, Try.results34, go_sem]) rfl (retv HV.out (Below.refl _ _))
  | some p =>
    obtain ⟨i, hi, rfl, hp⟩ := at1_some ha
    have HF := Lib.hid (find_some h hi hp)
    have HV : Hid (toldV F ((i : Int) + 1) = .tuple #[.int .i64 p.r, .int .i64 p.w, .int .i64 (p.bs.length : Nat), .int .i64 0]) := Lib.hid (by unfold toldV; rw [ha])
    obtain ⟨o1, o2, o3, o4⟩ := h.ob i p hi hp
    obtain ⟨A0, n0, hv0, -, -⟩ := o2.shape
    have c0 := o1.cell 0
    have c1 := o1.cell 1
    have c2 := o1.cell 2
    have hl := o1.lt
    rw [hv0] at c2
    dsimp at c0 c1 c2
    clear h hp ha o1 o2 o3 o4 hv0
    go_enter Try.func34, Try.ntmps34
    go_wp2_with fail
    refine HF.out.mono ?_
    rintro x w' ⟨rfl, rfl⟩
    go_wp2_with fail
    refine wp_region_near w.heap.size (by kernel_rfl) (by kernel_rfl) ?_
    repeat (go_big_quiet_step (fail))
    refine wpQuiet_nil ?_
    intro w3 hb3
    go_wp2
    exact bodyPost_ret (v := .tuple #[.int .i64 p.r, .int .i64 p.w, .int .i64 (p.bs.length : Nat), .int .i64 0]) (by simp [results, Try.results34, go_sem]) rfl (retv HV.out hb3)
end
end Go.Proofs.Ythlhjaacjhlkhaa
