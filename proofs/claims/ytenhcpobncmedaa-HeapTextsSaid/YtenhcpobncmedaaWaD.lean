/- Contract of Sleep of wait.Queue. -/
import Derived.Test.YtenhcpobncmedaaWaC
namespace Go
open Go.Maps
theorem IntMap.delete {P : Program} {w : World} {k e : TypeId} {b n : Nat} {f : Int → Option Int} (h : IntMap P w k e b n f) {t : TypeId} (hk : P.underlying k = some (.int .i64)) (ht : P.underlying t = some (.map k e)) {x : Int} (hx : (Lit.int .i64 x).wf = true) :
    ∃ w', (∀ ty, (Builtin.delete_ #[t, k] ty #[.map (some b), .int .i64 x]).run P w = .ok (.tuple #[]) w') ∧ IntMap P w' k e b n (fun z => if z = x then none else f z) ∧ w.grownBy w' (some b) := by
  obtain ⟨D, h1, h2, h3⟩ := h
  obtain ⟨w', hrun, r1, r2⟩ := h1.drop (int_keyed hk) ht (keyOf_int_mk hk hx) 0
  refine ⟨w', fun ty => hrun, ⟨_, r1, h2.del _, fun z => ?_⟩, r2.grown⟩
  by_cases hz : z = x
  · subst hz
    rw [has_del_same, atKey_del_same]; simp
  · rw [has_del_other (by intro e; injection e with _ e; exact hz e), atKey_del_other (by intro e; injection e with _ e; exact hz e), (h3 z).1, (h3 z).2]; simp [hz]
end Go
namespace Go.Proofs.Ytenhcpobncmedaa
open Go.RowKit
set_option maxHeartbeats 400000
set_option linter.unusedVariables false
set_option linter.unusedSimpArgs false
theorem wa_zero3 (w : World) : (zeroValue 3).run Try.prog w = .ok (.int .i64 0) w := by kernel_rfl
set_option maxRecDepth 100000 in
theorem sleep_none (g b : Nat) (vl : Value) (ws : List Wt) (f : Int → Option Int) (cnt : Nat) (nn t : Int) (al : Bool) (w : World) (B : Nat) (h : WaSt w B g b vl ws f cnt nn) (ht : (Lit.int .i64 t).wf = true) (hf : (f t).getD 0 = 0) :
    Calls Try.prog 50 #[.pointer (some ⟨g, 0, none⟩), .int .i64 t, .bool al] w fun e w' => e = .returned (.tuple #[.bool false, .int .i64 8]) ∧ w = w' := by
  have hlook := h.map.run_lookup (t := 78) Try.underlying3 Try.underlying3 Try.underlying78 (wa_zero3 w) ht
  rw [hf] at hlook
  have k1 := h.blk.cell 1
  have klt := h.blk.lt
  clear h hf
  go_enter Try.func50, Try.ntmps50
  go_wp2
  go_ret2
  exact ⟨rfl, rfl⟩
set_option maxRecDepth 100000 in
theorem sleep_there (g b : Nat) (vl : Value) (ws : List Wt) (f : Int → Option Int) (cnt : Nat) (nn t m : Int) (al : Bool) (w : World) (B : Nat) (h : WaSt w B g b vl ws f cnt nn) (ht : (Lit.int .i64 t).wf = true) (hf : (f t).getD 0 = m) (hm : m ≠ 0) (hc : (wts ws).contains t = true) :
    Calls Try.prog 50 #[.pointer (some ⟨g, 0, none⟩), .int .i64 t, .bool al] w fun e w' => e = .returned (.tuple #[.bool false, .int .i64 5]) ∧ Below w.heap.size w w' := by
  have hlook := h.map.run_lookup (t := 78) Try.underlying3 Try.underlying3 Try.underlying78 (wa_zero3 w) ht
  rw [hf] at hlook
  have d : (m == 0) = false := by simpa using hm
  have k1 := h.blk.cell 1
  have klt := h.blk.lt
  have HX := Lib.hid (has111 g b vl ws f cnt nn t w B h)
  rw [hc] at HX
  clear h hf hm hc
  go_enter Try.func50, Try.ntmps50
  go_wp2_with fail
  refine HX.out.mono ?_
  rintro e w1 ⟨rfl, hb⟩
  go_wp2
  go_ret2
  exact ⟨rfl, hb⟩
set_option maxRecDepth 100000 in
theorem sleep_late (g b : Nat) (vl : Value) (ws : List Wt) (f : Int → Option Int) (cnt : Nat) (nn t m : Int) (al : Bool) (w : World) (B : Nat) (h : WaSt w B g b vl ws f cnt nn) (ht : (Lit.int .i64 t).wf = true) (hf : (f t).getD 0 = m) (hm : m ≠ 0) (hc : (wts ws).contains t = false) (hnn : 0 ≤ nn ∧ nn < 4611686018427387904) (hne : m ≠ nn + 1) :
    Calls Try.prog 50 #[.pointer (some ⟨g, 0, none⟩), .int .i64 t, .bool al] w fun e w' => e = .returned (.tuple #[.bool false, .int .i64 0]) ∧ WaGo w B g b vl ws (fun z => if z = t then none else f z) cnt nn w' := by
  have hlook := h.map.run_lookup (t := 78) Try.underlying3 Try.underlying3 Try.underlying78 (wa_zero3 w) ht
  rw [hf] at hlook
  have d : (m == 0) = false := by simpa using hm
  have k1 := h.blk.cell 1
  have klt := h.blk.lt
  have HX := Lib.hid (has111 g b vl ws f cnt nn t w B h)
  rw [hc] at HX
  have H := Lib.hid h
  have d2 : (m != nn + 1) = true := by simpa using hne
  clear h hf hm hc hne
  go_enter Try.func50, Try.ntmps50
  go_wp2_with fail
  refine HX.out.mono ?_
  rintro e w1 ⟨rfl, hb⟩
  have h1 := H.out.grow hb
  obtain ⟨w2, hrun, hm2, hg2⟩ := h1.map.delete (t := 78) Try.underlying3 Try.underlying78 ht
  have hf2 : Fr (fun k => k = b) w1 w2 := (Fr.refl _ w1).grown hg2 (fun k e _ => by injection e with e; exact e.symm)
  have hst2 : WaSt w2 B g b vl ws (fun z => if z = t then none else f z) cnt nn := ⟨h1.blk.fr hf2 (h1.map.blk_ne h1.blk), h1.row.fr hf2 (fun k hk e => h1.map.row_ne h1.row (hk.trans (by rw [e]))), hm2, H.out.low, H.out.lowb⟩
  have hfin : Hid (WaGo w B g b vl ws (fun z => if z = t then none else f z) cnt nn w2) := Lib.hid ⟨vl, hst2, ((Fr.of_grow hb).mono (fun _ _ h => h.elim)).trans (hf2.mono (S' := WaF g b vl) (fun k _ e => .inr (.inl e))) (fun _ _ h => h), fun k hk => .inl hk⟩
  have j1 := h1.blk.cell 1
  have jlt := h1.blk.lt
  have l2 := hst2.blk.cell 2
  have llt := hst2.blk.lt
  clear h1 hm2 hg2 hf2 hst2
  go_wp2
  go_ret2
  exact ⟨rfl, hfin.out⟩
def WSleepPost (w : World) (B g b : Nat) (vl : Value) (ws : List Wt) (f : Int → Option Int) (cnt : Nat) (nn : Int) (e : Ending) (w' : World) : Prop := e = .returned (.tuple #[.bool true, .int .i64 0]) ∧ WaGo w B g b vl ws f cnt nn w'
theorem WaGo.after {w w2 w3 : World} {B g b : Nat} {vl : Value} {ws : List Wt} {f : Int → Option Int} {cnt : Nat} {nn : Int} (hf : Fr (WaF g b vl) w w2) (h : WaGo w2 B g b vl ws f cnt nn w3) : WaGo w B g b vl ws f cnt nn w3 := by
  obtain ⟨vl', a1, a2, a3⟩ := h
  refine ⟨vl', a1, hf.trans a2 (fun _ _ h => h), fun k hk => ?_⟩
  rcases a3 k hk with h1 | h1
  · exact .inl h1
  · exact .inr (Nat.le_trans hf.size h1)
set_option maxRecDepth 100000 in
theorem sleep_ok (g b : Nat) (vl : Value) (ws : List Wt) (f : Int → Option Int) (cnt : Nat) (nn t : Int) (al : Bool) (w : World) (B : Nat) (h : WaSt w B g b vl ws f cnt nn) (hB : B ≤ w.heap.size) (ht : (Lit.int .i64 t).wf = true) (hf : (f t).getD 0 = nn + 1) (hc : (wts ws).contains t = false) (hnn : 0 ≤ nn ∧ nn < 4611686018427387904) (hl : ws.length ≤ 1000) :
    Calls Try.prog 50 #[.pointer (some ⟨g, 0, none⟩), .int .i64 t, .bool al] w (WSleepPost w B g b vl (ws ++ [⟨t, al⟩]) (fun z => if z = t then none else f z) cnt nn) := by
  obtain ⟨i0, hi, hz0, hz1, hz2⟩ := info_parts infoWt
  have hlook := h.map.run_lookup (t := 78) Try.underlying3 Try.underlying3 Try.underlying78 (wa_zero3 w) ht
  rw [hf] at hlook
  have d : (nn + 1 == 0) = false := by simp; omega
  obtain ⟨A, c, hv, _, hc1, hc2⟩ := h.rs
  subst hv
  have k1 := h.blk.cell 1
  have klt := h.blk.lt
  have HX := Lib.hid (has111 g b _ ws f cnt nn t w B h)
  rw [hc] at HX
  have H := Lib.hid h
  clear h hf hc
  generalize hll : ws.length = l at *
  have HLL := Lib.hid hll
  clear hll
  go_enter Try.func50, Try.ntmps50
  go_wp2_with fail
  refine HX.out.mono ?_
  rintro e w1 ⟨rfl, hb⟩
  have h1 := H.out.grow hb
  obtain ⟨w2, hrun, hm2, hg2⟩ := h1.map.delete (t := 78) Try.underlying3 Try.underlying78 ht
  have hf2 : Fr (fun k => k = b) w1 w2 := (Fr.refl _ w1).grown hg2 (fun k e _ => by injection e with e; exact e.symm)
  have hst2 : WaSt w2 B g b (.slice A l c) ws (fun z => if z = t then none else f z) cnt nn := ⟨h1.blk.fr hf2 (h1.map.blk_ne h1.blk), h1.row.fr hf2 (fun k hk e => h1.map.row_ne h1.row (hk.trans (by rw [e]))), hm2, H.out.low, H.out.lowb⟩
  have HST2 := Lib.hid hst2
  have hfw : Fr (WaF g b (.slice A l c)) w w2 := ((Fr.of_grow hb).mono (fun _ _ h => h.elim)).trans (hf2.mono (S' := WaF g b (.slice A l c)) (fun k _ e => .inr (.inl e))) (fun _ _ h => h)
  have HFW := Lib.hid hfw
  have hsz2 := hfw.size
  have j1 := h1.blk.cell 1
  have jlt := h1.blk.lt
  have l0 := hst2.blk.cell 0
  have l2 := hst2.blk.cell 2
  have llt := hst2.blk.lt
  have hrow2 := hst2.row
  rw [HLL.out] at hrow2
  clear h1 hm2 hg2 hf2 hst2 hfw
  go_wp2_with (at_builtin; refine wpList_append_row _ rfl (.tmp 36) (.tmp 40) 151 rfl B 155 i0 (.agg #[.int .i64 0, .bool false]) 2 16 Try.underlying151 hi hz0 hz1 hz2 rfl (by decide) (.slice A l c) l (ws.flatMap Wt.cells) rfl (hrow2.alloc _) (w2.heap.size + 1) (some ⟨w2.heap.size, 0, none⟩) 1 1 [.int .i64 t, .bool al] rfl (reads_two w2 (.int .i64 t) (.bool al) 155) (wa_oneCell t al) (by unfold maxLen; omega) (by omega) (by simp; omega) ?_)
  intro A2 c2 w3 hr3 hg3 ho3
  obtain ⟨hgo, m0, mf, ml⟩ := wa_app HST2.out HLL.out (Below.refl _ _) hr3 hg3 (by simpa using ho3)
  have HGO := Lib.hid (hgo.after HFW.out)
  clear hgo hr3 hg3 ho3
  go_wp2
  go_ret2
  exact ⟨rfl, HGO.out⟩
end Go.Proofs.Ytenhcpobncmedaa
