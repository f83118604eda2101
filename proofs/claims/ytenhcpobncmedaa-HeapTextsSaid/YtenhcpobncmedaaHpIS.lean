/- A heap with keys of type ByteArray: contract of Push. -/
import Derived.Test.YtenhcpobncmedaaHpHS
import Derived.Test.YtenhcpobncmedaaOwnB
import Derived.Deep.RegionLaw
namespace Go.Proofs.Ytenhcpobncmedaa.HS
open Go.RowKit
set_option maxHeartbeats 400000
set_option linter.unusedVariables false
set_option linter.unusedSimpArgs false
theorem infoK : (Try.prog.info? 9).map (fun i => (i.zero, i.size, i.bytes)) = some (some (.string ⟨#[]⟩), 1, 16) := by kernel_rfl
namespace Raw
variable {w w' : World} {B g b n : Nat} {vi vk : Value} {is ks : List Value} {f : Int → Option Int} {cnt : Nat}
theorem alloc (h : Raw w B g b vi vk n is ks f cnt) (o : Obj) : Raw (w.alloc o) B g b vi vk n is ks f cnt := ⟨h.blk.alloc o, h.ri.alloc o, h.rk.alloc o, h.map.alloc o, h.ne, h.low, h.lowb⟩
theorem app1 (h : Raw w B g b vi vk n is ks f cnt) (hr : Row w' B 3 1 vi n is) (hg : w.grownBy w' vi.ownBlock) : Raw w' B g b vi vk n is ks f cnt := by
  have hf := Fr.of_grown hg
  exact ⟨h.blk.fr hf (fun e => wa_row_blk h.ri h.blk (by decide) e), hr, h.rk.fr hf (fun k hk e => h.ne k e hk), h.map.fr hf (fun e => h.map.row_ne h.ri e), h.ne, h.low, h.lowb⟩
theorem app2 (h : Raw w B g b vi vk n is ks f cnt) (hr : Row w' B 9 1 vk n ks) (hg : w.grownBy w' vk.ownBlock) : Raw w' B g b vi vk n is ks f cnt := by
  have hf := Fr.of_grown hg
  exact ⟨h.blk.fr hf (fun e => wa_row_blk h.rk h.blk (by decide) e), h.ri.fr hf (fun k hk e => h.ne k hk e), hr, h.map.fr hf (fun e => h.map.row_ne h.rk e), h.ne, h.low, h.lowb⟩
end Raw
/-- Behind the two appends and stores. -/
def PMid (w : World) (B g b : Nat) (vi vk : Value) (n : Nat) (is ks : List Value) (f : Int → Option Int) (cnt : Nat) (wx : World) : Prop :=
  ∃ v8 v9, Raw wx B g b v8 v9 n is ks f cnt ∧ Fr (F g b vi vk) w wx ∧ ∀ k, F g b v8 v9 k → F g b vi vk k ∨ w.heap.size ≤ k
theorem pmid {w W8 w8 W9 w9 : World} {B g b n : Nat} {vi vk v8 v9 : Value} {is ks : List Value} {x y : Value} {f : Int → Option Int} {cnt : Nat} (h : Raw W8 B g b vi vk n is ks f cnt)
    (hW : Below w.heap.size w W8) (hF0 : ∀ k, F g b vi vk k → k < w.heap.size)
    (hr8 : Row w8 B 3 1 v8 (n + 1) (is ++ [x])) (hr80 : Row w8 B 3 1 vi n is) (hg8 : W8.grownBy w8 vi.ownBlock) (ho8 : v8.ownBlock = vi.ownBlock ∨ v8.ownBlock = some W8.heap.size)
    (h9 : Below w8.heap.size w8 W9) (hr9 : Row w9 B 9 1 v9 (n + 1) (ks ++ [y])) (hr90 : Row w9 B 9 1 vk n ks) (hg9 : W9.grownBy w9 vk.ownBlock) (ho9 : v9.ownBlock = vk.ownBlock ∨ v9.ownBlock = some W9.heap.size) :
    PMid w B g b vi vk (n + 1) (is ++ [x]) (ks ++ [y]) f cnt ((w9.setCell ⟨g, 0, none⟩ v8).setCell ⟨g, 1, none⟩ v9) := by
  have R8 := h.app1 hr80 hg8
  have R9 : Raw W9 B g b vi vk n is ks f cnt := ⟨R8.blk.fr (Fr.of_grow h9) (fun h => h), R8.ri.grow h9, R8.rk.grow h9, R8.map.grow h9, R8.ne, R8.low, R8.lowb⟩
  have R10 := R9.app2 hr90 hg9
  have hs8 := hg8.size
  have hs9 := h9.size
  have hsW := hW.size
  have hn8 : ∀ k, v8.ownBlock = some k → vk.ownBlock ≠ some k := fun k hk hk' => by
    rcases own_cases ho8 hk with e | e
    · exact h.ne k e hk'
    · have := (h.rk.lt k hk').2; omega
  have hr89 : Row w9 B 3 1 v8 (n + 1) (is ++ [x]) := (hr8.grow h9).fr (Fr.of_grown hg9) (fun k hk e => hn8 k hk e)
  refine ⟨v8, v9, R10.setG hr89 hr9 (fun k hk hk' => ?_), ?_, fun k hk => ?_⟩
  · rcases own_cases ho9 hk' with e | e
    · exact hn8 k hk e
    · have := (hr8.lt k hk).2; omega
  · have a1 : Fr (F g b vi vk) w w8 := ((Fr.of_below hW).mono (S' := F g b vi vk) (fun k hk e => by omega)).grown hg8 (fun k e _ => .inr (.inr (.inl e)))
    have a2 : Fr (F g b vi vk) w W9 := a1.trans ((Fr.of_grow h9).mono (S' := F g b vi vk) (fun _ _ h => h.elim)) (fun _ _ h => h)
    exact ((a2.grown hg9 (fun k e _ => .inr (.inr (.inr e)))).setCell (p := ⟨g, 0, none⟩) (fun _ => .inl rfl) _).setCell (p := ⟨g, 1, none⟩) (fun _ => .inl rfl) _
  · rcases hk with hk | hk | hk | hk
    · exact .inl (.inl hk)
    · exact .inl (.inr (.inl hk))
    · rcases own_cases ho8 hk with e | e
      · exact .inl (.inr (.inr (.inl e)))
      · exact .inr (by omega)
    · rcases own_cases ho9 hk with e | e
      · exact .inl (.inr (.inr (.inr e)))
      · exact .inr (by omega)
theorem one_reads {w : World} {q B : Nat} {u : Value} (h : w.cell? ⟨q, 0, none⟩ = some u) (hq : q < B) : Reads w B 1 (some ⟨q, 0, none⟩) 1 [u] := by
  refine ⟨rfl, fun _ => ⟨q, 0, rfl, hq, fun j y hy => ?_⟩⟩
  cases j with
  | zero => simp at hy; subst hy; exact h
  | succ j => simp at hy
theorem one_cell {w : World} {q B : Nat} {u : Value} (h : Reads w B 1 (some ⟨q, 0, none⟩) 1 [u]) : w.cell? ⟨q, 0, none⟩ = some u := by
  obtain ⟨b, o, e, _, hc⟩ := h.2 (by omega)
  injection e with e
  injection e with e1 e2
  subst e1; subst e2
  exact hc 0 u rfl
set_option maxRecDepth 100000 in
theorem push_there (g b : Nat) (vi vk : Value) (ps : List (Int × ByteArray)) (f : Int → Option Int) (cnt : Nat) (id v : Int) (key : ByteArray) (w : World) (B : Nat) (h : St w B g b vi vk ps f cnt) (hid : (Lit.int .i64 id).wf = true) (hf : f id = some v) :
    Calls Try.prog 38 #[.pointer (some ⟨g, 0, none⟩), .int .i64 id, .string key] w fun e w' => e = .returned (.int .i64 5) ∧ w = w' := by
  have b2 := h.blk.cell 2
  have bl := h.blk.lt
  have hlook := h.map.run_lookup_ok (t := 78) Try.underlying3 Try.underlying3 Try.underlying78 (wa_zero3 w) hid
  rw [hf] at hlook
  simp only [Option.getD_some, Option.isSome_some] at hlook
  clear h hf
  go_enter Try.func38, Try.ntmps38
  go_wp2
  go_ret
  exact ⟨rfl, rfl⟩
def PushPost (w : World) (B g b : Nat) (vi vk : Value) (qs : List (Int × ByteArray)) (cnt : Nat) (e : Ending) (w' : World) : Prop := e = .returned (.int .i64 0) ∧ GoOk w B g b vi vk qs cnt w'
theorem push_hole {ps : List (Int × ByteArray)} (h : Heap (bef klt) ps.length (pf ps)) (x : Int × ByteArray) : Hole (bef klt) (ps ++ [x]).length (pf (ps ++ [x])) ps.length := by
  have hl : (ps ++ [x]).length = ps.length + 1 := by simp
  rw [hl]
  refine Hole.of_heap (bef_ord sord) h (fun k hk hne => by omega) (fun k hk hne => ?_) (fun c h0 hc hp => ?_)
  · unfold pf
    simp only [List.getD_eq_getElem?_getD]
    rw [List.getElem?_append_left (by omega)]
  · unfold hpar at hp; omega
set_option maxHeartbeats 4000000 in
set_option maxRecDepth 100000 in
theorem push_new (g b : Nat) (vi vk : Value) (ps : List (Int × ByteArray)) (f : Int → Option Int) (cnt : Nat) (id : Int) (key : ByteArray) (w : World) (B : Nat) (h : Ok w B g b vi vk ps f cnt) (hB : B ≤ w.heap.size) (hid : (Lit.int .i64 id).wf = true) (hf : f id = none) (hl : ps.length < 5864062014639) (hcnt : cnt < maxLen - 1) :
    Calls Try.prog 38 #[.pointer (some ⟨g, 0, none⟩), .int .i64 id, .string key] w (PushPost w B g b vi vk (ps ++ [(id, key)]) (cnt + 1)) := by
  obtain ⟨i0, hi, hz0, hz1, hz2⟩ := info_parts Try.infoInt
  obtain ⟨j0, hj, hy0, hy1, hy2⟩ := info_parts infoK
  have hlook := h.st.map.run_lookup_ok (t := 78) Try.underlying3 Try.underlying3 Try.underlying78 (wa_zero3 w) hid
  rw [hf] at hlook
  simp only [Option.getD_none, Option.isSome_none] at hlook
  have HPOS := Lib.hid (h.pos.push (k := key) hf)
  have HHO := Lib.hid (push_hole h.heap (id, key))
  have HWF : Hid (∀ p ∈ ps ++ [(id, key)], (Lit.int .i64 p.1).wf = true) := Lib.hid (fun p hp => by
    rcases List.mem_append.1 hp with h1 | h1
    · exact h.wf p h1
    · simp at h1; rw [h1]; exact hid)
  obtain ⟨A, c, A', c', rfl, hc1, hc2, rfl, hc3, hc4⟩ := h.st.shapes
  have b0 := h.st.blk.cell 0
  have b1 := h.st.blk.cell 1
  have b2 := h.st.blk.cell 2
  have bf0 := h.st.blk.free 0
  have bf1 := h.st.blk.free 1
  have bl := h.st.blk.lt
  have HLT := Lib.hid (fun k hk => (h.st.lt k hk).2)
  have R0 := h.st.raw.drew
  generalize hll : ps.length = n at *
  have HLL := Lib.hid hll
  clear hll
  have HA := Lib.hid (R0.alloc (.cells #[.int .i64 id] 3))
  have HB := Lib.hid ((R0.alloc (.cells #[.int .i64 id] 3)).alloc (.cells #[.string key] 9))
  have HC := Lib.hid ((R0.alloc (.cells #[.string key] 9)).alloc (.cells #[.int .i64 id] 3))
  have hWA : Hid (Below w.heap.size w (w.drew.alloc (.cells #[.int .i64 id] 3))) := Lib.hid (((Below.refl w.heap.size w).drew).alloc (Nat.le_refl _) _)
  have hWB : Hid (Below w.heap.size w ((w.drew.alloc (.cells #[.int .i64 id] 3)).alloc (.cells #[.string key] 9))) := Lib.hid ((((Below.refl w.heap.size w).drew).alloc (Nat.le_refl _) _).alloc (by simp) _)
  have hWC : Hid (Below w.heap.size w ((w.drew.alloc (.cells #[.string key] 9)).alloc (.cells #[.int .i64 id] 3))) := Lib.hid ((((Below.refl w.heap.size w).drew).alloc (Nat.le_refl _) _).alloc (by simp) _)
  have hA1 : Hid (Reads (w.drew.alloc (.cells #[.int .i64 id] 3)) (w.heap.size + 1) 1 (some ⟨w.heap.size, 0, none⟩) 1 [.int .i64 id]) := Lib.hid (reads_one w.drew (.int .i64 id) 3)
  have hB1 : Hid (Reads ((w.drew.alloc (.cells #[.int .i64 id] 3)).alloc (.cells #[.string key] 9)) (w.heap.size + 1) 1 (some ⟨w.heap.size, 0, none⟩) 1 [.int .i64 id]) := Lib.hid (Reads.alloc hA1.out (by simp) _)
  have hB2 : Hid (Reads ((w.drew.alloc (.cells #[.int .i64 id] 3)).alloc (.cells #[.string key] 9)) (w.heap.size + 1 + 1) 1 (some ⟨w.heap.size + 1, 0, none⟩) 1 [.string key]) := Lib.hid (by have := reads_one (w.drew.alloc (.cells #[.int .i64 id] 3)) (.string key) 9; simpa using this)
  have hC1 : Hid (Reads ((w.drew.alloc (.cells #[.string key] 9)).alloc (.cells #[.int .i64 id] 3)) (w.heap.size + 1 + 1) 1 (some ⟨w.heap.size + 1, 0, none⟩) 1 [.int .i64 id]) := Lib.hid (by have := reads_one (w.drew.alloc (.cells #[.string key] 9)) (.int .i64 id) 3; simpa using this)
  have hC2 : Hid (Reads ((w.drew.alloc (.cells #[.string key] 9)).alloc (.cells #[.int .i64 id] 3)) (w.heap.size + 1) 1 (some ⟨w.heap.size, 0, none⟩) 1 [.string key]) := Lib.hid (Reads.alloc (reads_one w.drew (.string key) 9) (by simp) _)
  have hown1 : Hid (∀ k, (Value.slice A n c).ownBlock = some k → k < w.heap.size) := Lib.hid (fun k hk => (h.st.ri.lt k hk).2)
  have HP0 : Hid (Fr (F g b (.slice A n c) (.slice A' n c')) w w) := Lib.hid (Fr.refl _ _)
  clear h R0 hf
  go_enter Try.func38, Try.ntmps38
  go_upto_region 4 with fail
  go_cut [6] (fun _ wx => PMid w B g b (.slice A n c) (.slice A' n c') (n + 1) (ps.map iv ++ [.int .i64 id]) (ps.map kv ++ [.string key]) f cnt wx)
  case first =>
    go_region_law (first | (refine step_append_row_old rfl (.tmp 24) (.tmp 26) 45 rfl B 3 i0 (.int .i64 0) 1 8 Try.underlying45 hi hz0 hz1 hz2 rfl (by decide) (.slice A n c) n (ps.map iv) (by simp [Act.eval, Act.put]) HA.out.ri (w.heap.size + 1) (some ⟨w.heap.size, 0, none⟩) 1 1 [.int .i64 id] (by simp [Act.eval, Act.put]) hA1.out (by simp [Value.oneCell']) (by unfold maxLen; omega) (by omega) (by simp; omega) (by omega) ?_; intro A8 c8 w8 hr8 hr80 hg8 ho8; have R8 := HA.out.app1 hr80 hg8; have k80 := R8.blk.cell 0; have k81 := R8.blk.cell 1; have kf80 := R8.blk.free 0; have kf81 := R8.blk.free 1; have kl8 := R8.blk.lt; have hB8 := Nat.le_trans hWA.out.size hg8.size; have P8 := Lib.hid (fun W9 w9 v9 h9 hr9 hr90 hg9 ho9 => pmid (w := w) (W9 := W9) (w9 := w9) (v9 := v9) (y := .string key) HA.out hWA.out HLT.out hr8 hr80 hg8 ho8 h9 hr9 hr90 hg9 ho9)) | (refine step_append_row_old rfl (.tmp 24) (.tmp 26) 45 rfl B 3 i0 (.int .i64 0) 1 8 Try.underlying45 hi hz0 hz1 hz2 rfl (by decide) (.slice A n c) n (ps.map iv) (by simp [Act.eval, Act.put]) HB.out.ri (w.heap.size + 1) (some ⟨w.heap.size, 0, none⟩) 1 1 [.int .i64 id] (by simp [Act.eval, Act.put]) hB1.out (by simp [Value.oneCell']) (by unfold maxLen; omega) (by omega) (by simp; omega) (by omega) ?_; intro A8 c8 w8 hr8 hr80 hg8 ho8; have R8 := HB.out.app1 hr80 hg8; have k80 := R8.blk.cell 0; have k81 := R8.blk.cell 1; have kf80 := R8.blk.free 0; have kf81 := R8.blk.free 1; have kl8 := R8.blk.lt; have hB8 := Nat.le_trans hWB.out.size hg8.size; have hx8 := one_reads (B := w8.heap.size) (hg8.cell (one_cell hB2.out) (fun e => by have h9 := hown1.out _ e.symm; dsimp only at h9; omega)) (by have := hg8.size; simp at this; omega); have P8 := Lib.hid (fun W9 w9 v9 h9 hr9 hr90 hg9 ho9 => pmid (w := w) (W9 := W9) (w9 := w9) (v9 := v9) (y := .string key) HB.out hWB.out HLT.out hr8 hr80 hg8 ho8 h9 hr9 hr90 hg9 ho9)) | (refine step_append_row_old rfl (.tmp 24) (.tmp 26) 45 rfl B 3 i0 (.int .i64 0) 1 8 Try.underlying45 hi hz0 hz1 hz2 rfl (by decide) (.slice A n c) n (ps.map iv) (by simp [Act.eval, Act.put]) HC.out.ri (w.heap.size + 1 + 1) (some ⟨w.heap.size + 1, 0, none⟩) 1 1 [.int .i64 id] (by simp [Act.eval, Act.put]) hC1.out (by simp [Value.oneCell']) (by unfold maxLen; omega) (by omega) (by simp; omega) (by omega) ?_; intro A8 c8 w8 hr8 hr80 hg8 ho8; have R8 := HC.out.app1 hr80 hg8; have k80 := R8.blk.cell 0; have k81 := R8.blk.cell 1; have kf80 := R8.blk.free 0; have kf81 := R8.blk.free 1; have kl8 := R8.blk.lt; have hB8 := Nat.le_trans hWC.out.size hg8.size; have hx8 := one_reads (B := w8.heap.size) (hg8.cell (one_cell hC2.out) (fun e => by have h9 := hown1.out _ e.symm; dsimp only at h9; omega)) (by have := hg8.size; simp at this; omega); have P8 := Lib.hid (fun W9 w9 v9 h9 hr9 hr90 hg9 ho9 => pmid (w := w) (W9 := W9) (w9 := w9) (v9 := v9) (y := .string key) HC.out hWC.out HLT.out hr8 hr80 hg8 ho8 h9 hr9 hr90 hg9 ho9)) | (refine step_append_row_old rfl (.tmp 31) (.tmp 33) 66 rfl B 9 j0 (.string ⟨#[]⟩) 1 16 Try.underlying66 hj hy0 hy1 hy2 rfl (by decide) (.slice A' n c') n (ps.map kv) (by simp [Act.eval, Act.put]) R8.rk (w8.heap.size) (some ⟨w.heap.size + 1, 0, none⟩) 1 1 [.string key] (by simp [Act.eval, Act.put]) hx8 (by simp [Value.oneCell']) (by unfold maxLen; omega) (by omega) (by first | omega | (simp; omega)) (by omega) ?_; intro A9 c9 w9 hr9 hr90 hg9 ho9; have R9 := (R8).app2 hr90 hg9; have k90 := R9.blk.cell 0; have k91 := R9.blk.cell 1; have kf90 := R9.blk.free 0; have kf91 := R9.blk.free 1; have kl9 := R9.blk.lt; have P9 := Lib.hid (P8.out _ w9 _ (Below.refl _ _) hr9 hr90 hg9 ho9)) | (refine step_append_row_old rfl (.tmp 31) (.tmp 33) 66 rfl B 9 j0 (.string ⟨#[]⟩) 1 16 Try.underlying66 hj hy0 hy1 hy2 rfl (by decide) (.slice A' n c') n (ps.map kv) (by simp [Act.eval, Act.put]) R8.rk (w8.heap.size) (some ⟨w.heap.size, 0, none⟩) 1 1 [.string key] (by simp [Act.eval, Act.put]) hx8 (by simp [Value.oneCell']) (by unfold maxLen; omega) (by omega) (by first | omega | (simp; omega)) (by omega) ?_; intro A9 c9 w9 hr9 hr90 hg9 ho9; have R9 := (R8).app2 hr90 hg9; have k90 := R9.blk.cell 0; have k91 := R9.blk.cell 1; have kf90 := R9.blk.free 0; have kf91 := R9.blk.free 1; have kl9 := R9.blk.lt; have P9 := Lib.hid (P8.out _ w9 _ (Below.refl _ _) hr9 hr90 hg9 ho9)) | (refine step_append_row_old rfl (.tmp 31) (.tmp 33) 66 rfl B 9 j0 (.string ⟨#[]⟩) 1 16 Try.underlying66 hj hy0 hy1 hy2 rfl (by decide) (.slice A' n c') n (ps.map kv) (by simp [Act.eval, Act.put]) (R8.rk.alloc _) (w8.heap.size + 1) (some ⟨w8.heap.size, 0, none⟩) 1 1 [.string key] (by simp [Act.eval, Act.put]) (reads_one w8 (.string key) 9) (by simp [Value.oneCell']) (by unfold maxLen; omega) (by omega) (by first | omega | (simp; omega)) (by omega) ?_; intro A9 c9 w9 hr9 hr90 hg9 ho9; have R9 := (R8.alloc (.cells #[.string key] 9)).app2 hr90 hg9; have k90 := R9.blk.cell 0; have k91 := R9.blk.cell 1; have kf90 := R9.blk.free 0; have kf91 := R9.blk.free 1; have kl9 := R9.blk.lt; have P9 := Lib.hid (P8.out _ w9 _ ((Below.refl _ _).alloc (Nat.le_refl _) _) hr9 hr90 hg9 ho9)) | fail)
    all_goals (go_wp2; go_meet; exact P9.out)
  case rest =>
    clear HA HB HC hWA hWB hWC hA1 hB1 hB2 hC1 hC2 b0 b1 b2 bf0 bf1 bl hlook
    obtain ⟨v8, v9, R1, hfr1, hF1⟩ := hcut
    obtain ⟨A1, c1, hv1, hd1, hd2⟩ := R1.ri.shape
    subst hv1
    obtain ⟨A2, c2, hv2, hd3, hd4⟩ := R1.rk.shape
    subst hv2
    have b0 := R1.blk.cell 0
    have b2 := R1.blk.cell 2
    have bl := R1.blk.lt
    have hnw := int_wf_nat n (by omega)
    obtain ⟨w3, hrun, hm3, hg3⟩ := R1.drew.map.update (t := 78) Try.underlying3 Try.underlying3 Try.underlying78 (by omega) hid hnw
    have R3 := R1.drew.setM hm3 hg3
    have hl3 : (ps ++ [(id, key)]).length = n + 1 := by simp [HLL.out]
    have hst3 := R3.st (ps := ps ++ [(id, key)]) hl3 (by simp [iv]) (by simp [kv])
    have hfr3 : Fr (F g b (.slice A n c) (.slice A' n c')) w w3 := hfr1.drew.grown hg3 (fun k e _ => .inr (.inl (by injection e with e; exact e.symm)))
    have k0 := hst3.blk.cell 0
    have kl := hst3.blk.lt
    have HFX := Lib.hid (fix100 g b _ _ _ _ (cnt + 1) n w3 B hst3 (by omega) HPOS.out (by omega) (by omega) HWF.out HHO.out)
    have HFIN := Lib.hid (fun w' ps' f' (hM : Mid _ _ w' B g b _ _ ps' f' (cnt + 1)) hh => Mid.go (qs := ps ++ [(id, key)]) hM hh HWF.out (List.Perm.refl _) hfr3 hF1)
    clear R1 R3 hst3 hfr3 hfr1 hF1 hm3 hg3 hl3
    go_wp2_with fail
    go_region
    go_wp2_with fail
    refine HFX.out.mono ?_
    rintro e w4 ⟨rfl, ps', f', hM, hh⟩
    have HG := Lib.hid (HFIN.out w4 ps' f' hM hh)
    clear hM hh
    go_wp2
    go_ret
    exact ⟨rfl, HG.out⟩
end Go.Proofs.Ytenhcpobncmedaa.HS
