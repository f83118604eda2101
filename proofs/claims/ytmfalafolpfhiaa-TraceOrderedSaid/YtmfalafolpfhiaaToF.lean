/- slices.SortFunc at edges, as trace.Order calls it. -/
import Derived.Test.YtmfalafolpfhiaaToC
import Derived.Shelf.SlSortCmp.NoneTotal
import Derived.Shelf.Lay
import Derived.Ground.SlsfProg
namespace Go.Proofs
open Go.Shelf
shelf_lay_g SlLaysF0.n6 Slsf 6 at Try 21 as Try.sortE
end Go.Proofs
namespace Go.Proofs.Ytmfalafolpfhiaa
open Go.RowKit
set_option maxHeartbeats 400000
set_option linter.unusedVariables false
set_option linter.unusedSimpArgs false
def cmpI (a b : Int) : Int := if a < b then -1 else if b < a then 1 else 0
def orI (a b : Int) : Int := if a = 0 then b else a
def cfE (x y : Int × Int) : Int := orI (cmpI x.1 y.1) (cmpI x.2 y.2)
set_option maxRecDepth 100000 in
theorem nan_any (a : Int) (w : World) : Calls Try.prog 34 #[.int .i64 a] w fun e w' => e = .returned (.bool false) ∧ w = w' := by
  go_enter Try.func34, Try.ntmps34
  go_wp2
  go_ret
  exact ⟨by simp, rfl⟩
set_option maxRecDepth 100000 in
theorem compare_any (a b : Int) (w : World) : Calls Try.prog 24 #[.int .i64 a, .int .i64 b] w fun e w' => e = .returned (.int .i64 (cmpI a b)) ∧ w = w' := by
  have hn := fun x w => nan_any x w
  unfold cmpI
  by_cases h1 : a < b
  · go_enter Try.func24, Try.ntmps24
    go_wp2_with (go_at_call 34; refine (hn _ _).mono ?_; rintro e w' ⟨rfl, rfl⟩)
    go_ret
    exact ⟨by simp [h1], rfl⟩
  · by_cases h2 : b < a
    · go_enter Try.func24, Try.ntmps24
      go_wp2_with (go_at_call 34; refine (hn _ _).mono ?_; rintro e w' ⟨rfl, rfl⟩)
      go_ret
      exact ⟨by simp [h1, h2], rfl⟩
    · go_enter Try.func24, Try.ntmps24
      go_wp2_with (go_at_call 34; refine (hn _ _).mono ?_; rintro e w' ⟨rfl, rfl⟩)
      go_ret
      exact ⟨by simp [h1, h2], rfl⟩
set_option maxRecDepth 100000 in
theorem or_any (a b : Int) (g o : Nat) (w : World) (h0 : w.cell? ⟨g, o, none⟩ = some (.int .i64 a)) (h1 : w.cell? ⟨g, o + 1, none⟩ = some (.int .i64 b)) : Calls Try.prog 23 #[.slice (some ⟨g, o, none⟩) 2 2] w fun e w' => e = .returned (.int .i64 (orI a b)) ∧ w = w' := by
  unfold orI
  go_enter Try.func23, Try.ntmps23
  go_wp2
  go_loop [8] (fun i => ∃ k : Nat, k ≤ 2 ∧ i = .int .i64 k ∧ (1 ≤ k → a = 0) ∧ (2 ≤ k → b = 0)) (fun i => 2 - (intOf i).toNat)
  case atStart => exact ⟨0, by omega, rfl, by omega, by omega⟩
  case round =>
    obtain ⟨k, hk, rfl, r1, r2⟩ := hrel
    rcases (by omega : k = 0 ∨ k = 1 ∨ k = 2) with rfl | rfl | rfl
    · by_cases ha : a = 0
      · subst ha
        go_wp2
        go_round
        case rel => exact ⟨1, by omega, by go_num, by simp, by omega⟩
        case measure => simp [intOf]
      · have d : (a != 0) = true := by simpa using ha
        go_wp2
        go_ret
        exact ⟨by simp [ha], rfl⟩
    · obtain rfl := r1 (by omega)
      by_cases hb : b = 0
      · subst hb
        go_wp2
        go_round
        case rel => exact ⟨2, by omega, by go_num, by simp, by simp⟩
        case measure => simp [intOf]
      · have d : (b != 0) = true := by simpa using hb
        go_wp2
        go_ret
        exact ⟨by simp, rfl⟩
    · obtain rfl := r1 (by omega)
      obtain rfl := r2 (by omega)
      go_wp2
      go_ret
      exact ⟨by simp, rfl⟩
theorem run23 (args : Array Value) (w : World) : (callFunc 23 args).run Try.prog w = .ok (.enter 23 args) w := by
  have h := Try.func23
  simp [callFunc, go_sem, h, Try.f23]
theorem run24 (args : Array Value) (w : World) : (callFunc 24 args).run Try.prog w = .ok (.enter 24 args) w := by
  have h := Try.func24
  simp [callFunc, go_sem, h, Try.f24]
theorem step_call_go {P : Program} {ops : Array Oper} {o : Oper} {a : Act} {w : World} {K : Act → World → Prop} {Q : Exit → Act → World → Prop} {E : Prop} (hgd : o.guard = none) (f : FuncId) (xs : Array Operand) (ats : Array TypeId)
    (ho : o.op = .call { callee := .value (.func f), args := xs, argTypes := ats }) (args : Array Value) (hargs : xs.map a.eval = args) (hrun : (callFunc f args).run P w = .ok (.enter f args) w) (Φ : Value → World → Prop)
    (hC : Calls P f args w fun e w' => ∃ v, e = .returned v ∧ Φ v w') (h : ∀ v w', Φ v w' → K (a.put o.dst v) w') : if Region.wanted o (yielded ops a.tmps) = true then Oper.wp P o a w K Q else E := by
  have hw : Region.wanted o (yielded ops a.tmps) = true := by simp [Region.wanted, hgd]
  rw [if_pos hw]
  unfold Oper.wp
  have e : execOp a.eval o = callFunc f args := by
    obtain ⟨dst, op, ty, pos, after, guard⟩ := o
    dsimp only at ho
    subst ho
    rw [execOp_call_go, hargs]
    simp
  rw [e, hrun, Oper.upon_enter]
  refine hC.mono ?_
  rintro e' w' ⟨v, rfl, hΦ⟩
  exact h v w' hΦ
open Go.Sort in
theorem grow3 (W : World) (a b c : Obj) : (((W.alloc a).alloc b).alloc c).drew = grow (W.drewN 1) #[a, b, c] := by
  rw [alloc_eq_grow, alloc_eq_grow, alloc_eq_grow, grow_grow, grow_grow]
  rfl
def Is (u : Value) (w : World) (v : Value) (w' : World) : Prop := v = u ∧ w = w'
set_option maxHeartbeats 2000000 in
set_option maxRecDepth 100000 in
theorem closure22 (x y : Int × Int) (W : World) : Calls Try.prog 22 #[.agg #[.int .i64 x.1, .int .i64 x.2], .agg #[.int .i64 y.1, .int .i64 y.2]] W fun e w' => e = .returned (.int .i64 (cfE x y)) ∧ ∃ q os', w' = Go.Sort.grow (W.drewN q) os' := by
  have HC : Hid (∀ (a b : Int) (w : World), Calls Try.prog 24 #[.int .i64 a, .int .i64 b] w fun e w' => ∃ v, e = .returned v ∧ Is (.int .i64 (cmpI a b)) w v w') := Lib.hid (fun a b w => (compare_any a b w).mono fun _ _ ⟨h1, h2⟩ => ⟨_, h1, rfl, h2⟩)
  obtain ⟨x1, x2⟩ := x
  obtain ⟨y1, y2⟩ := y
  have HV : Hid (cfE (x1, x2) (y1, y2) = orI (cmpI x1 y1) (cmpI x2 y2)) := Lib.hid rfl
  generalize cfE (x1, x2) (y1, y2) = r at *
  dsimp only
  go_enter Try.func22, Try.ntmps22
  go_wp2_with fail
  have HO := Lib.hid (fun (w' : World) (h : Blk w' (W.heap.size + 2) #[.int .i64 (cmpI x1 y1), .int .i64 (cmpI x2 y2)] 3) => (or_any (cmpI x1 y1) (cmpI x2 y2) (W.heap.size + 2) 0 w' (by simpa using h.cell 0) (by simpa using h.cell 1)).mono (R' := fun e w'' => ∃ v, e = .returned v ∧ Is (.int .i64 r) w' v w'') fun _ _ ⟨h1, h2⟩ => ⟨_, h1, by rw [HV.out], h2⟩)
  have hbk := Blk.new (((W.alloc (Obj.cells #[Value.int IntKind.i64 x1, Value.int IntKind.i64 x2] 37)).alloc (Obj.cells #[Value.int IntKind.i64 y1, Value.int IntKind.i64 y2] 37)).drew) #[.int .i64 (cmpI x1 y1), .int .i64 (cmpI x2 y2)] 3
  simp only [World.size_drew, World.size_alloc] at hbk
  go_region_law (first | (refine step_call_go rfl 24 #[.tmp 6, .tmp 8] #[3, 3] rfl #[.int .i64 x1, .int .i64 y1] (by simp [Act.eval, Act.put]) (run24 #[.int .i64 x1, .int .i64 y1] _) (Is (.int .i64 (cmpI x1 y1)) _) (HC.out x1 y1 _) ?_; rintro v8 w8 ⟨rfl, rfl⟩) | (refine step_call_go rfl 24 #[.tmp 11, .tmp 13] #[3, 3] rfl #[.int .i64 x2, .int .i64 y2] (by simp [Act.eval, Act.put]) (run24 #[.int .i64 x2, .int .i64 y2] _) (Is (.int .i64 (cmpI x2 y2)) _) (HC.out x2 y2 _) ?_; rintro v8 w8 ⟨rfl, rfl⟩) | (refine step_call_go rfl 23 #[.tmp 15] #[23] rfl #[.slice (some ⟨W.heap.size + 2, 0, none⟩) 2 2] (by simp [Act.eval, Act.put]) (run23 #[.slice (some ⟨W.heap.size + 2, 0, none⟩) 2 2] _) (Is (.int .i64 r) _) (HO.out _ hbk) ?_; rintro v8 w8 ⟨rfl, rfl⟩) | fail)
  all_goals (
    go_wp2
    go_ret
    exact ⟨rfl, 1, _, grow3 W _ _ _⟩)
open Go.Sort Go.Lib in
theorem ltE (x y : Int × Int) : ltOf cfE x y = decide (x.1 < y.1 ∨ (x.1 = y.1 ∧ x.2 < y.2)) := by
  unfold ltOf cfE orI cmpI
  by_cases h1 : x.1 < y.1
  · simp [h1]
  · by_cases h2 : y.1 < x.1
    · have : ¬ x.1 = y.1 := by omega
      simp [h1, h2, this]
    · have e : x.1 = y.1 := by omega
      by_cases h3 : x.2 < y.2
      · simp [e, h3]
      · by_cases h4 : y.2 < x.2 <;> simp [e, h3, h4]
open Go.Sort Go.Lib in
theorem swoE : SWO (ltOf cfE) where
  irrefl x := by rw [ltE]; simp
  trans x y z h1 h2 := by rw [ltE] at *; simp only [decide_eq_true_eq] at *; omega
  ntrans x y z h1 h2 := by rw [ltE] at *; simp only [decide_eq_false_iff_not] at *; omega
open Go.Sort Go.Lib in
theorem totE (x y : Int × Int) (h1 : ltOf cfE x y = false) (h2 : ltOf cfE y x = false) : x = y := by
  rw [ltE] at *
  simp only [decide_eq_false_iff_not] at *
  have e1 : x.1 = y.1 := by omega
  have e2 : x.2 = y.2 := by omega
  exact Prod.ext e1 e2
def leE (x y : Int × Int) : Bool := decide (x.1 < y.1 ∨ (x.1 = y.1 ∧ x.2 ≤ y.2))
open Go.Sort Go.Lib in
theorem geE : (fun x y : Int × Int => !(ltOf cfE y x)) = leE := by
  funext x y
  rw [ltE, leE, ← decide_not, decide_eq_decide]
  omega
theorem isAggE (w : World) : (isAgg 37).run Try.prog w = .ok true w := by kernel_rfl
theorem sizeE (w : World) : (Go.sizeOf 37).run Try.prog w = .ok 2 w := by kernel_rfl
open Go.Sort Go.Lib in
theorem sort_at (blk off c : Nat) (d : Array (Int × Int)) (hsz : d.size < 4611686018427387904) (w : World) (hH : HoldsK edgeCl 2 w blk off d) (hblk : blk < w.heap.size) :
    Calls Try.prog 21 #[.slice (some ⟨blk, off, none⟩) d.size c, .func (.func 22) #[] #[]] w fun e w' =>
      e = .returned (.tuple #[]) ∧ ∃ n os, w' = grow (putRowK edgeCl 2 (Sort.ahead w n) blk off (d.toList.mergeSort leE).toArray) os := by
  have h := AnyQ.slices_SortFunc_total Try.sortE 2 isAggE sizeE edgeCl (fun _ => rfl) (fun x v hv => by simp [edgeCl] at hv; rcases hv with rfl | rfl <;> rfl) cfE swoE 22 #[] blk off c d w (enters_of Try.func22 (by kernel_rfl) rfl) (fun _ _ _ _ x y => closure22 x y _) hH hblk hsz totE
  rw [geE] at h
  exact h
theorem sort_none (p : Option Addr) (c : Nat) (fv : Value) (w : World) : Calls Try.prog 21 #[.slice p 0 c, fv] w fun e w' => e = .returned (.tuple #[]) ∧ w' = w :=
  Go.Proofs.AnyF.slices_SortFunc_none (P := Try.prog) (ρ := Try.sortE_ren) { Try.sortE with } p c fv w
end Go.Proofs.Ytmfalafolpfhiaa
