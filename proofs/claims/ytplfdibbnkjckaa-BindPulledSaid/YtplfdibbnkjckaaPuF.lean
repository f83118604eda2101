/- Contract of sameObjects, parts that say the same. -/
import Derived.Test.YtplfdibbnkjckaaPuA
namespace Go.Proofs.Ytplfdibbnkjckaa
open Go.RowKit
set_option maxHeartbeats 400000
set_option linter.unusedVariables false
set_option linter.unusedSimpArgs false
/-- A call of a Go function as one step of a region that draws its order. -/
theorem step_call_go2 {P : Program} {ops : Array Oper} {o : Oper} {a : Act} {w : World} {K : Act → World → Prop} {Q : Exit → Act → World → Prop} {E : Prop} (hgd : o.guard = none) (f : FuncId) (xs : Array Operand) (ats : Array TypeId)
    (ho : o.op = .call { callee := .value (.func f), args := xs, argTypes := ats }) (args : Array Value) (hargs : xs.map a.eval = args) (hrun : (callFunc f args).run P w = .ok (.enter f args) w) (Φ : Value → World → Prop)
    (hC : Calls P f args w fun e w' => ∃ v, e = .returned v ∧ Φ v w') (h : ∀ v w', Φ v w' → K (a.put o.dst v) w') : if Region.wanted o (yielded ops a.tmps) = true then Oper.wp P o a w K Q else E := by
  have hw : Region.wanted o (yielded ops a.tmps) = true := by simp [Region.wanted, hgd]
  rw [if_pos hw]
  unfold Oper.wp
  have e : execOp a.eval o = callFunc f args := by
    obtain ⟨dst, op, ty, pos, after, guard⟩ := o
    dsimp only at ho
    subst ho
    rw [execOp_call_go, hargs]
    simp
  rw [e, hrun, Oper.upon_enter]
  refine hC.mono ?_
  rintro e' w' ⟨v, rfl, hΦ⟩
  exact h v w' hΦ
theorem run14 (args : Array Value) (w : World) : (callFunc 14 args).run Try.prog w = .ok (.enter 14 args) w := by
  have h := Try.func14
  simp [callFunc, go_sem, h, Try.f14]
def SameV (w : World) (v : Value) (w' : World) : Prop := v = .bool true ∧ Below w.heap.size w w'
theorem same_v {args : Array Value} {w : World} (h : Calls Try.prog 14 args w (SameB w)) : Calls Try.prog 14 args w fun e w' => ∃ v, e = .returned v ∧ SameV w v w' :=
  h.mono fun e w' hp => by
    obtain ⟨rfl, hb⟩ := hp
    exact ⟨_, rfl, rfl, hb⟩
theorem says_at {fs fs' : List Fo} (h : fs'.map Fo.says = fs.map Fo.says) {i : Nat} {f f' : Fo} (h1 : fs[i]? = some f) (h2 : fs'[i]? = some f') : f'.says = f.says := by
  have := congrArg (fun l => l[i]?) h
  simp only [List.getElem?_map, h1, h2, Option.map_some] at this
  exact Option.some.inj this
set_option maxHeartbeats 2000000 in
set_option maxRecDepth 100000 in
theorem sameObjects_same (A A' : Option Addr) (n c n' c' : Nat) (fs fs' : List Fo) (w : World) (h : RF w w.heap.size A n fs) (h' : RF w w.heap.size A' n' fs') (hs : fs'.map Fo.says = fs.map Fo.says) (hn : n ≤ 9223372036854775807) :
    Calls Try.prog 8 #[.slice A n c, .slice A' n' c'] w (SameB w) := by
  have hl := h.len
  have hl' := h'.len
  obtain rfl : n' = n := by
    have := congrArg List.length hs
    simp only [List.length_map] at this
    omega
  clear hl hl'
  have HS := Lib.hid hs
  go_enter Try.func8, Try.ntmps8
  go_wp2
  go_loopw [13] (fun i wr => ∃ k : Nat, k ≤ n' ∧ i = .int .i64 k ∧ Below w.heap.size w wr) (fun i _ => n' - (intOf i).toNat)
  case atStart => exact ⟨0, by omega, rfl, Below.refl _ _⟩
  case round =>
    obtain ⟨k, hk, rfl, hbw⟩ := hrel
    have hsw := hbw.size
    by_cases hkn : k < n'
    · obtain ⟨b, o, f, rfl, hb, hf, hfull, z0, z1, z2, z3⟩ := (h.below' hbw (Nat.le_refl _)).at_ hkn
      obtain ⟨b', o', f', rfl, hb', hf', hfull', y0, y1, y2, y3⟩ := (h'.below' hbw (Nat.le_refl _)).at_ hkn
      have hsy := says_at HS.out hf hf'
      have HC := Lib.hid (fun (W : World) (hb : Below wr.heap.size wr W) => show Calls Try.prog 14 #[.agg f.o.vals, .agg f'.o.vals] W (SameB W) from by
        unfold Fo.says at hsy
        injection hsy with e1 e2
        injection e2 with e2 e3
        injection e3 with e3 e4
        have g1 := ((hfull.below' hb hsw).more (Nat.le_trans hsw hb.size)).full
        have g2 := ((hfull'.below' hb hsw).more (Nat.le_trans hsw hb.size)).full
        rw [e1, e2] at g2
        exact sameObject_same f.o f'.o f.ws f.bs W g1 g2 e3 e4)
      clear hsy hfull hfull' hf hf'
      obtain ⟨⟨A0, n0, c0, A1, n1, c1, A2, n2, c2, A3, n3, c3, ns, ds⟩, ws, bs⟩ := f
      obtain ⟨⟨A0', n0', c0', A1', n1', c1', A2', n2', c2', A3', n3', c3', ns', ds'⟩, ws', bs'⟩ := f'
      unfold Ob.vals at HC
      dsimp only at z0 z1 z2 z3 y0 y1 y2 y3 HC
      have hkn' : (k : Int) < n' := by omega
      have hk0 : (0 : Int) ≤ k := by omega
      have HCD := Lib.hid (same_v (HC.out wr.drew ((Below.refl _ _).drew)))
      go_wp2_with fail
      go_region_law (first | (refine step_call_go2 rfl 14 #[.tmp 19, .tmp 23] #[37, 37] rfl #[.agg #[.slice A0 n0 c0, .slice A1 n1 c1, .slice A2 n2 c2, .slice A3 n3 c3], .agg #[.slice A0' n0' c0', .slice A1' n1' c1', .slice A2' n2' c2', .slice A3' n3' c3']] (by simp [Act.eval, Act.put]) (run14 _ _) (SameV wr.drew) HCD.out ?_; rintro v8 w8 ⟨rfl, hb8⟩) | fail)
      all_goals
        have hbn := Lib.hid (hbw.trans (((Below.refl wr.heap.size wr).drew.trans hb8).mono hsw))
        clear hb8
        try go_wp2
        go_roundw
        case rel => exact ⟨k + 1, by omega, by go_num, hbn.out⟩
        case measure => simp [intOf]; omega
    · obtain rfl : k = n' := by omega
      go_wp2
      go_ret
      exact ⟨rfl, hbw⟩
end Go.Proofs.Ytplfdibbnkjckaa
