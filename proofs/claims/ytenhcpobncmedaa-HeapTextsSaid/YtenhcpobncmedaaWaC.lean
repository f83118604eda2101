/- Contracts of List and Look of wait.Queue. -/
import Derived.Test.YtenhcpobncmedaaWaB
namespace Go.Proofs.Ytenhcpobncmedaa
open Go.RowKit
set_option maxHeartbeats 400000
set_option linter.unusedVariables false
set_option linter.unusedSimpArgs false
def WListPost (w : World) (xs : List Int) (e : Ending) (w' : World) : Prop := ∃ A c, e = .returned (.slice A xs.length c) ∧ RD w' w'.heap.size A xs.length xs ∧ Below w.heap.size w w'
theorem wts_take (ws : List Wt) {k : Nat} (h : k < ws.length) : wts (ws.take (k + 1)) = wts (ws.take k) ++ [(ws.getD k Wt.zero).t] := by
  unfold wts
  rw [List.take_succ_eq_append_getElem h, List.map_append]
  simp [List.getD, List.getElem?_eq_getElem h]
set_option maxHeartbeats 600000 in
set_option maxRecDepth 100000 in
theorem list44 (g b : Nat) (vl : Value) (ws : List Wt) (f : Int → Option Int) (cnt : Nat) (nn : Int) (w : World) (B : Nat) (h : WaSt w B g b vl ws f cnt nn) (hl : ws.length ≤ 1000) :
    Calls Try.prog 44 #[.pointer (some ⟨g, 0, none⟩)] w (WListPost w (wts ws)) := by
  obtain ⟨i0, hi, hz0, hz1, hz2⟩ := info_parts Try.infoInt
  obtain ⟨A, c, hv, hrs, hc1, hc2⟩ := h.rs
  have c0 := h.blk.cell 0
  rw [hv] at c0
  have hgl := h.blk.lt
  have HLW : Hid ((wts ws).length = ws.length) := Lib.hid (by unfold wts; simp)
  clear h hv
  generalize hll : ws.length = l at *
  have HLL := Lib.hid hll
  clear hll
  go_enter Try.func44, Try.ntmps44
  go_wp2
  go_loopw [3, 11] (fun v i wr => ∃ j : Nat, j ≤ l ∧ i = .int .i64 j ∧ Row wr w.heap.size 3 1 v j ((wts (ws.take j)).map (Value.int .i64)) ∧ Below w.heap.size w wr) (fun _ i _ => l - (intOf i).toNat)
  case atStart => exact ⟨0, by omega, rfl, Row.nil _ _ _ _, Below.refl _ _⟩
  case round =>
    obtain ⟨j, hj, rfl, hr, hbw⟩ := hrel
    obtain ⟨A6, c6, hv6, hc61, hc62⟩ := hr.shape
    subst hv6
    have hsz := hbw.size
    by_cases hlt : j < l
    · obtain ⟨b9, o9, rfl, hb9, k0, k1⟩ := Wt.at_ (hrs.below' hbw (Nat.le_refl _)) hlt
      have HT := Lib.hid (wts_take ws (k := j) (by rw [HLL.out]; exact hlt))
      generalize (ws.getD j Wt.zero).t = y at *
      generalize (ws.getD j Wt.zero).al = al at *
      have hr1 := hr.alloc (.cells #[.int .i64 y, .bool al] 155)
      go_wp2_with (at_builtin; refine wpList_append_row _ rfl (.tmp 15) (.tmp 18) 45 rfl w.heap.size 3 i0 (.int .i64 0) 1 8 Try.underlying45 hi hz0 hz1 hz2 rfl (by decide) (.slice A6 j c6) j ((wts (ws.take j)).map (Value.int .i64)) rfl (hr1.alloc _) (wr.heap.size + 1 + 1) (some ⟨wr.heap.size + 1, 0, none⟩) 1 1 [.int .i64 y] rfl (by have := reads_one (wr.alloc (.cells #[.int .i64 y, .bool al] 155)) (.int .i64 y) 3; simpa using this) (by simp [Value.oneCell']) (by unfold maxLen; omega) (by omega) (by simp; omega) ?_)
      intro A8 c8 w8 hr8 hg8 ho8
      have hbw1 : Below w.heap.size w w8 := ((hbw.alloc hsz _).alloc (by simp; omega) _).grown hg8 (by simp; omega) (fun k hk => (hr.lt k hk).1)
      have hr9 : Row w8 w.heap.size 3 1 (.slice A8 (j + 1) c8) (j + 1) ((wts (ws.take (j + 1))).map (Value.int .i64)) := by
        rw [HT.out, List.map_append]; exact hr8
      clear hr8 hg8 ho8
      go_wp2
      go_roundw
      case rel => exact ⟨j + 1, by omega, by go_num, hr9, hbw1⟩
      case measure => simp [intOf]; omega
    · obtain rfl : j = l := by omega
      have hfin : Hid (WListPost w (wts ws) (.returned (.slice A6 j c6)) wr) := Lib.hid (by
        have e1 : ws.take j = ws := List.take_of_length_le (by rw [HLL.out]; exact Nat.le_refl _)
        rw [e1] at hr
        refine ⟨A6, c6, by rw [HLW.out], ?_, hbw⟩
        rw [HLW.out]
        exact RD.of_row hr)
      clear hr
      go_wp2
      go_ret
      exact hfin.out
set_option maxRecDepth 100000 in
theorem look_bad (g : Nat) (t : Int) (w : World) (h : ¬ (1 ≤ t ∧ t ≤ 16)) :
    Calls Try.prog 49 #[.pointer (some ⟨g, 0, none⟩), .int .i64 t] w fun e w' => e = .returned (.int .i64 1) ∧ w = w' := by
  by_cases h1 : t < 1
  · have d1 : decide (t < 1) = true := by simpa using h1
    clear h h1
    go_enter Try.func49, Try.ntmps49
    go_wp2
    go_ret
    exact ⟨rfl, rfl⟩
  have d1 : decide (t < 1) = false := by simpa using h1
  have d2 : decide (16 < t) = true := by simp; omega
  clear h h1
  go_enter Try.func49, Try.ntmps49
  go_wp2
  go_ret
  exact ⟨rfl, rfl⟩
set_option maxRecDepth 100000 in
theorem look_there (g b : Nat) (vl : Value) (ws : List Wt) (f : Int → Option Int) (cnt : Nat) (nn t : Int) (w : World) (B : Nat) (h : WaSt w B g b vl ws f cnt nn) (ht : 1 ≤ t ∧ t ≤ 16) (hc : (wts ws).contains t = true) :
    Calls Try.prog 49 #[.pointer (some ⟨g, 0, none⟩), .int .i64 t] w fun e w' => e = .returned (.int .i64 5) ∧ Below w.heap.size w w' := by
  have d1 : decide (t < 1) = false := by simp; omega
  have d2 : decide (16 < t) = false := by simp; omega
  have HX := Lib.hid (has111 g b vl ws f cnt nn t w B h)
  rw [hc] at HX
  clear h hc ht
  go_enter Try.func49, Try.ntmps49
  go_wp2_with fail
  refine HX.out.mono ?_
  rintro e w1 ⟨rfl, hb⟩
  go_wp2
  go_ret
  exact ⟨rfl, hb⟩
theorem WaSt.drew {w : World} {B g b : Nat} {vl : Value} {ws : List Wt} {f : Int → Option Int} {cnt : Nat} {nn : Int} (h : WaSt w B g b vl ws f cnt nn) : WaSt w.drew B g b vl ws f cnt nn := ⟨h.blk, h.row, h.map, h.low, h.lowb⟩
theorem WaSt.drewN {w : World} {B g b : Nat} {vl : Value} {ws : List Wt} {f : Int → Option Int} {cnt : Nat} {nn : Int} (h : WaSt w B g b vl ws f cnt nn) (m : Nat) : WaSt (w.drewN m) B g b vl ws f cnt nn := ⟨h.blk, h.row, h.map, h.low, h.lowb⟩
set_option maxRecDepth 100000 in
theorem look_ok (g b : Nat) (vl : Value) (ws : List Wt) (f : Int → Option Int) (cnt : Nat) (nn t : Int) (w : World) (B : Nat) (h : WaSt w B g b vl ws f cnt nn) (ht : 1 ≤ t ∧ t ≤ 16) (hc : (wts ws).contains t = false) (hcnt : cnt < maxLen) (hnn : 0 ≤ nn ∧ nn < 4611686018427387904) :
    Calls Try.prog 49 #[.pointer (some ⟨g, 0, none⟩), .int .i64 t] w fun e w' => e = .returned (.int .i64 0) ∧ WaGo w B g b vl ws (fun z => if z = t then some (nn + 1) else f z) (cnt + 1) nn w' := by
  have d1 : decide (t < 1) = false := by simp; omega
  have d2 : decide (16 < t) = false := by simp; omega
  have HX := Lib.hid (has111 g b vl ws f cnt nn t w B h)
  rw [hc] at HX
  have H := Lib.hid h
  have htw : (Lit.int .i64 t).wf = true := by simp [Lit.wf, IntKind.min, IntKind.max, IntKind.signed, IntKind.bits]; omega
  have hnw : (Lit.int .i64 (nn + 1)).wf = true := by simp [Lit.wf, IntKind.min, IntKind.max, IntKind.signed, IntKind.bits]; omega
  clear h hc ht
  go_enter Try.func49, Try.ntmps49
  go_wp2_with fail
  refine HX.out.mono ?_
  rintro e w1 ⟨rfl, hb⟩
  have h1 := (H.out.grow hb).drew
  obtain ⟨w2, hrun, hm2, hg2⟩ := h1.map.update (t := 78) Try.underlying3 Try.underlying3 Try.underlying78 hcnt htw hnw
  have hf2 : Fr (fun k => k = b) w1 w2 := ((Fr.refl _ w1).drew).grown hg2 (fun k e _ => by injection e with e; exact e.symm)
  have hfd : Fr (fun k => k = b) w1.drew w2 := (Fr.refl _ w1.drew).grown hg2 (fun k e _ => by injection e with e; exact e.symm)
  have hst2 : WaSt w2 B g b vl ws (fun z => if z = t then some (nn + 1) else f z) (cnt + 1) nn := ⟨h1.blk.fr hfd (h1.map.blk_ne h1.blk), h1.row.fr hfd (fun k hk e => h1.map.row_ne h1.row (hk.trans (by rw [e]))), hm2, H.out.low, H.out.lowb⟩
  have hfin : Hid (WaGo w B g b vl ws (fun z => if z = t then some (nn + 1) else f z) (cnt + 1) nn w2) := Lib.hid ⟨vl, hst2, ((Fr.of_grow hb).mono (fun _ _ h => h.elim)).trans (hf2.mono (S' := WaF g b vl) (fun k _ e => .inr (.inl e))) (fun _ _ h => h), fun k hk => .inl hk⟩
  clear hst2 hfd
  have k1 := h1.blk.cell 1
  have k2 := h1.blk.cell 2
  have klt := h1.blk.lt
  clear h1 hm2 hg2 hf2
  go_wp2
  go_region
  go_wp2
  go_ret
  exact ⟨rfl, hfin.out⟩
end Go.Proofs.Ytenhcpobncmedaa
