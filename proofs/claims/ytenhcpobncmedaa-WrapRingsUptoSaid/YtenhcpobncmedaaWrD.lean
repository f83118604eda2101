/- Contract of Put of wrap.Ring. -/
import Derived.Test.YtenhcpobncmedaaWrC
namespace Go.Proofs.Ytenhcpobncmedaa
open Go.RowKit
set_option maxHeartbeats 400000
set_option linter.unusedVariables false
set_option linter.unusedSimpArgs false
theorem wr_step_call {P : Program} {ops : Array Oper} {o : Oper} {a : Act} {w : World} {K : Act → World → Prop} {Q : Exit → Act → World → Prop} {E : Prop} (hgd : o.guard = none) (f : FuncId) (xs : Array Operand) (ats : Array TypeId)
    (ho : o.op = .call { callee := .value (.func f), args := xs, argTypes := ats }) (args : Array Value) (hargs : xs.map a.eval = args) (hrun : (callFunc f args).run P w = .ok (.enter f args) w) (Φ : Value → World → Prop)
    (hC : Calls P f args w fun e w' => ∃ v, e = .returned v ∧ Φ v w') (h : ∀ v w', Φ v w' → K (a.put o.dst v) w') : if Region.wanted o (yielded ops a.tmps) = true then Oper.wp P o a w K Q else E := by
  have hw : Region.wanted o (yielded ops a.tmps) = true := by simp [Region.wanted, hgd]
  rw [if_pos hw]
  unfold Oper.wp
  have e : execOp a.eval o = callFunc f args := by
    obtain ⟨dst, op, ty, pos, after, guard⟩ := o
    dsimp only at ho
    subst ho
    rw [execOp_call_go, hargs]
    simp
  rw [e, hrun, Oper.upon_enter]
  refine hC.mono ?_
  rintro e' w' ⟨v, rfl, hΦ⟩
  exact h v w' hΦ
theorem run80 (args : Array Value) (w : World) : (callFunc 80 args).run Try.prog w = .ok (.enter 80 args) w := by
  have h := Try.func80
  simp [callFunc, go_sem, h, Try.f80]
set_option maxRecDepth 100000 in
theorem put_large (g : Nat) (A : Option Addr) (n c : Nat) (w : World) (h : 32 < n) :
    Calls Try.prog 12 #[.pointer (some ⟨g, 0, none⟩), .slice A n c] w fun e w' => e = .returned (.tuple #[.int .u32 0, .int .i64 2]) ∧ w = w' := by
  go_enter Try.func12, Try.ntmps12
  go_wp2
  go_ret2
  exact ⟨rfl, rfl⟩
/-- The records behind a Put. -/
def ringL (size : Int) (L : List Rb) (r : Rb) : List Rb := if size < (L.length : Int) + 1 then (L ++ [r]).drop 1 else L ++ [r]
def PutPost (w : World) (B g : Nat) (vl : Value) (size next : Int) (L : List Rb) (n : Nat) (xs : List Int) (e : Ending) (w' : World) : Prop :=
  e = .returned (.tuple #[.int .u32 next, .int .i64 0]) ∧ ∃ r, r.xs = xs ∧ r.n = n ∧ RgGo w B g vl size ((next + 1) % 4294967296) (ringL size L r) w'
theorem rg_set2 {w : World} {B g : Nat} {vl v : Value} {size next : Int} {L L' : List Rb} (h : RgSt w B g vl size next L) (hr : Row w B 30 1 v L'.length (L'.map Rb.val)) (he : ∀ r ∈ L', r.own w B) : RgSt (w.setCell ⟨g, 2, none⟩ v) B g v size next L' := by
  refine ⟨?_, hr.setCell (p := ⟨g, 2, none⟩) (wr_row_blk hr h.blk (by decide)) v, fun r hr' => ⟨(he r hr').1.setCell (p := ⟨g, 2, none⟩) (wr_row_blk (he r hr').1 h.blk (by decide)) v, (he r hr').2⟩, h.low⟩
  have := h.blk.set 2 v
  simpa using this
theorem rg_set1 {w : World} {B g : Nat} {vl : Value} {size next : Int} {L : List Rb} (h : RgSt w B g vl size next L) (x : Int) : RgSt (w.setCell ⟨g, 1, none⟩ (.int .u32 x)) B g vl size x L := by
  refine ⟨?_, h.row.setCell (p := ⟨g, 1, none⟩) (wr_row_blk h.row h.blk (by decide)) _, fun r hr' => ⟨(h.ent r hr').1.setCell (p := ⟨g, 1, none⟩) (wr_row_blk (h.ent r hr').1 h.blk (by decide)) _, (h.ent r hr').2⟩, h.low⟩
  have := h.blk.set 1 (.int .u32 x)
  simpa using this
/-- The ring, with its row grown by an append. -/
theorem rg_app {w w8 w9 : World} {B g l c c8 c9 n : Nat} {A A8 A9 : Option Addr} {size next : Int} {L : List Rb} {xs : List Int} (h : RgSt w B g (.slice A l c) size next L) (hl : L.length = l) (hB : B ≤ w.heap.size) (hb : Below w.heap.size w w8)
    (h8 : Row w8 w.heap.size 5 1 (.slice A8 n c8) n (xs.map (Value.int .u8))) (hbyt : Byt xs) (hf : Fr (fun k => (Value.slice A l c).ownBlock = some k) w8 w9) (hr : Row w9 B 30 1 (.slice A9 (l + 1) c9) (l + 1) (L.map Rb.val ++ [.slice A8 n c8]))
    {N9 : Nat} (hN : w.heap.size ≤ N9) (ho : (Value.slice A9 (l + 1) c9).ownBlock = (Value.slice A l c).ownBlock ∨ (Value.slice A9 (l + 1) c9).ownBlock = some N9) :
    RgSt (w9.setCell ⟨g, 2, none⟩ (.slice A9 (l + 1) c9)) B g (.slice A9 (l + 1) c9) size next (L ++ [⟨A8, n, c8, xs⟩]) ∧ Fr (RgF g (.slice A l c)) w (w9.setCell ⟨g, 2, none⟩ (.slice A9 (l + 1) c9)) ∧
      (∀ k, RgF g (.slice A9 (l + 1) c9) k → RgF g (.slice A l c) k ∨ w.heap.size ≤ k) := by
  have h8' := h.grow hb
  have hk9 : RgSt w9 B g (.slice A l c) size next L ∨ True := .inr trivial
  have hblk9 : Blk w9 g #[.int .i64 size, .int .u32 next, .slice A l c] 119 := h8'.blk.fr hf (fun e => wr_row_blk h8'.row h8'.blk (by decide) e)
  have hent : ∀ r ∈ L ++ [(⟨A8, n, c8, xs⟩ : Rb)], r.own w9 B := fun r hr' => by
    rcases List.mem_append.1 hr' with hr' | hr'
    · have := (h8'.ent r hr').1
      exact ⟨this.fr hf (fun k hk hk' => wr_row_row this h8'.row (by decide) k hk hk'), (h8'.ent r hr').2⟩
    · obtain rfl : r = ⟨A8, n, c8, xs⟩ := by simpa using hr'
      have := h8.base_le hB
      exact ⟨this.fr hf (fun k hk hk' => wr_row_row this h8'.row (by decide) k hk hk'), hbyt⟩
  have hr2 : Row w9 B 30 1 (.slice A9 (l + 1) c9) (L ++ [(⟨A8, n, c8, xs⟩ : Rb)]).length ((L ++ [(⟨A8, n, c8, xs⟩ : Rb)]).map Rb.val) := by
    rw [List.length_append, List.map_append, hl]; exact hr
  refine ⟨⟨?_, hr2.setCell (p := ⟨g, 2, none⟩) (wr_row_blk hr hblk9 (by decide)) _, fun r hr' => ⟨(hent r hr').1.setCell (p := ⟨g, 2, none⟩) (wr_row_blk (hent r hr').1 hblk9 (by decide)) _, (hent r hr').2⟩, h.low⟩, ?_, fun k hk => ?_⟩
  · have := hblk9.set 2 (.slice A9 (l + 1) c9)
    simpa using this
  · exact (((Fr.of_grow hb).mono (fun _ _ h => h.elim)).trans (hf.mono (S' := RgF g (.slice A l c)) (fun k _ e => .inr e)) (fun _ _ h => h)).setCell (p := ⟨g, 2, none⟩) (fun _ => .inl rfl) _
  · rcases hk with hk | hk
    · exact .inl (.inl hk)
    · rcases own_cases ho hk with h1 | h1
      · exact .inl (.inr h1)
      · exact .inr (by omega)
set_option maxHeartbeats 2000000 in
set_option maxRecDepth 100000 in
theorem put_ok (g : Nat) (A0 : Option Addr) (n c0 : Nat) (xs : List Int) (B0 : Nat) (vl : Value) (size next : Int) (L : List Rb) (w : World) (B : Nat) (h : RgSt w B g vl size next L) (hB : B ≤ w.heap.size) (hn : n ≤ 32) (hx : RB w B0 A0 n xs) (hB0 : B0 ≤ w.heap.size) (hnx : U32 next) (hl : L.length ≤ 64) (hsz : 1 ≤ size ∧ size ≤ 64) :
    Calls Try.prog 12 #[.pointer (some ⟨g, 0, none⟩), .slice A0 n c0] w (PutPost w B g vl size next L n xs) := by
  obtain ⟨i0, hi, hz0, hz1, hz2⟩ := info_parts infoBs
  obtain ⟨A, c, hv, hrr, hlc, hc9⟩ := h.rr
  subst hv
  have hc : w.cell? ⟨g, 2, none⟩ = some (.slice A L.length c) := h.blk.cell 2
  have hlt := h.blk.lt
  have hrow := h.row
  have hbyt := hx.2
  have HC := Lib.hid (clone80 A0 n c0 xs w.drew B0 hx.1 hB0 (by omega))
  have HCC : Hid (Calls Try.prog 80 #[.slice A0 n c0] w.drew fun e w' => ∃ v, e = .returned v ∧ ∃ A8 c8, v = .slice A8 n c8 ∧ Row w' w.heap.size 5 1 (.slice A8 n c8) n (xs.map (Value.int .u8)) ∧ Below w.heap.size w w') := Lib.hid (HC.out.mono (by
    rintro e w' ⟨A8, c8, rfl, h1, h2⟩
    exact ⟨_, rfl, A8, c8, rfl, h1, (Below.refl _ _).drew.trans h2⟩))
  have HAPP := Lib.hid (fun w8 w9 A8 A9 c8 c9 N9 hb h8 hf hr hN ho => rg_app (w8 := w8) (w9 := w9) (A8 := A8) (A9 := A9) (c8 := c8) (c9 := c9) (N9 := N9) (n := n) (xs := xs) h rfl hB hb h8 hbyt hf hr hN ho)
  have H := Lib.hid h
  clear HC hrr h
  generalize hll : L.length = l at *
  have HLL := Lib.hid hll
  clear hll
  go_enter Try.func12, Try.ntmps12
  go_wp2
  go_region_law (first | (refine wr_step_call rfl 80 #[.tmp 14] #[30] rfl #[.slice A0 n c0] (by simp [Act.eval, Act.put]) (run80 #[.slice A0 n c0] w.drew) (fun v w' => ∃ A8 c8, v = .slice A8 n c8 ∧ Row w' w.heap.size 5 1 (.slice A8 n c8) n (xs.map (Value.int .u8)) ∧ Below w.heap.size w w') HCC.out ?_; rintro v8 w8 ⟨A8, c8, rfl, hr8, hb8⟩; have hl8 := hb8.size; have hlt8 : g < w8.heap.size := Nat.lt_of_lt_of_le hlt hl8; have m1 := (hb8.cell (p := ⟨g, 2, none⟩) hlt).trans hc; have hrw8 := (H.out.grow hb8).row) | (refine step_append_row rfl (.tmp 13) (.tmp 16) 23 rfl B 30 i0 (.slice none 0 0) 1 24 Try.underlying23 hi hz0 hz1 hz2 rfl (by decide) (.slice A l c) l (L.map Rb.val) (by simp [Act.eval, Act.put]) ((by have := hrw8; rw [HLL.out] at this; exact this : Row w8 B 30 1 (.slice A l c) l (L.map Rb.val)).alloc (.cells #[.slice A8 n c8] 30)) (w8.heap.size + 1) (some ⟨w8.heap.size, 0, none⟩) 1 1 [.slice A8 n c8] (by simp [Act.eval, Act.put]) (reads_one w8 (.slice A8 n c8) 30) (by simp [Value.oneCell']) (by unfold maxLen; omega) (by omega) (by simp; omega) ?_; intro A9 c9 w9 hr9 hg9 ho9; have hf9 : Fr (fun k => (Value.slice A l c).ownBlock = some k) w8 w9 := ((Fr.refl _ w8).alloc _).grown hg9 (fun k e _ => e); have hbk9 := (H.out.grow hb8).blk.fr hf9 (fun e => wr_row_blk (H.out.grow hb8).row (H.out.grow hb8).blk (by decide) e); have k2 : w9.cell? ⟨g, 2, none⟩ = some (.slice A l c) := hbk9.cell 2; have kf := hbk9.free 2; have klt := hbk9.lt))
  all_goals
    have hN9 : w.heap.size ≤ (w8.alloc (.cells #[.slice A8 n c8] 30)).heap.size := by simp; omega
    obtain ⟨h1, hf1, ho1⟩ := HAPP.out w8 w9 A8 A9 c8 c9 _ hb8 hr8 hf9 hr9 hN9 ho9
    obtain ⟨W1, hW1⟩ : ∃ W, W = w9.setCell ⟨g, 2, none⟩ (.slice A9 (l + 1) c9) := ⟨_, rfl⟩
    rw [← hW1] at h1 hf1 ⊢
    have H1 := Lib.hid h1
    have HF1 := Lib.hid hf1
    have HO1 := Lib.hid ho1
    have n0 : W1.cell? ⟨g, 0, none⟩ = some (.int .i64 size) := h1.blk.cell 0
    have n1 : W1.cell? ⟨g, 1, none⟩ = some (.int .u32 next) := h1.blk.cell 1
    have n2 : W1.cell? ⟨g, 2, none⟩ = some (.slice A9 (l + 1) c9) := h1.blk.cell 2
    have nf1 := h1.blk.free 1
    have nf2 := h1.blk.free 2
    have nl := h1.blk.lt
    have hel : (L ++ [(⟨A8, n, c8, xs⟩ : Rb)]).length = l + 1 := by simp [HLL.out]
    have hrow1 := h1.row
    rw [hel] at hrow1
    obtain ⟨g9, o9, rfl, hg9b, _⟩ := hrow1.reads.2 (by omega)
    have hcut := hrow1.cut (k := 1) (by omega)
    have hBW : B ≤ W1.heap.size := Nat.le_trans hB hf1.size
    obtain ⟨hn0, hn1⟩ := hnx
    have hq9 : Hid (((next + 1) % 4294967296 - 1) % 4294967296 = next) := Lib.hid (by omega)
    have hq8 : Hid (next % 4294967296 = next) := Lib.hid (by omega)
    have hl1 : l + 1 ≤ c9 := by
      obtain ⟨_, _, e, h9, _⟩ := hrow1.shape
      injection e with _ _ e2
      omega
    have hone : ∀ u ∈ ((L ++ [(⟨A8, n, c8, xs⟩ : Rb)]).map Rb.val).drop 1, u.oneCell' = true := fun u hu => rb_oneCell _ u (List.mem_of_mem_drop hu)
    simp only [Nat.mul_one, Nat.add_sub_cancel] at hcut
    clear hW1 h1 hf1 ho1 hr9 hg9 ho9 hf9 hbk9 k2 kf klt hr8 hb8 hl8 hlt8 m1 hrw8 hel hc hlt hx hrow hrow1
    go_wp2
    go_quiet (fail)
    by_cases hbig : size < (l : Int) + 1
    · have d9 : decide (size < (l : Int) + 1) = true := decide_eq_true hbig
      have d9' : decide (size ≤ (l : Int)) = true := decide_eq_true (by omega)
      obtain ⟨A1, hA1⟩ : ∃ A1, (if c9 = 1 then some ⟨g9, o9, none⟩ else (some (⟨g9, o9, none⟩ : Addr)).map (·.add 1)) = A1 := ⟨_, rfl⟩
      rw [hA1] at hcut
      have HC81 := Lib.hid (fun m => clone81 A1 l (c9 - 1) _ (W1.drewN m) _ hcut.reads hone (Nat.le_refl _) (by omega))
      have q1 : (1 : Int) ≤ (l : Int) + 1 := by omega
      have q2 : (1 : Int) ≤ c9 := by omega
      have q3 : (l : Int) + 1 ≤ c9 := by omega
      have hc1 : ¬ c9 = 1 := by omega
      simp only [if_neg hc1, Option.map_some, add_plain] at hA1
      subst hA1
      go_wp2_with fail
      refine (HC81.out _).mono ?_
      rintro e w10 ⟨A7, c7, rfl, hr10, hb10⟩
      have hbw10 : Below W1.heap.size W1 w10 := (sl_below_drewN (Below.refl _ _) _).trans hb10
      have h10 := H1.out.grow hbw10
      have h11 := rg_set2 h10 (v := .slice A7 l c7) (L' := (L ++ [(⟨A8, n, c8, xs⟩ : Rb)]).drop 1) (by
        have e1 : ((L ++ [(⟨A8, n, c8, xs⟩ : Rb)]).drop 1).length = l := by simp [HLL.out]
        rw [e1, List.map_drop]
        exact hr10.base_le hBW) (fun r hr => h10.ent r (List.mem_of_mem_drop hr))
      have h12 := rg_set1 h11 ((next + 1) % 4294967296)
      have HRES : Hid (RgGo w B g (.slice A l c) size ((next + 1) % 4294967296) (ringL size L ⟨A8, n, c8, xs⟩) ((w10.setCell ⟨g, 2, none⟩ (.slice A7 l c7)).setCell ⟨g, 1, none⟩ (.int .u32 ((next + 1) % 4294967296)))) := Lib.hid (by
        have e2 : ringL size L ⟨A8, n, c8, xs⟩ = (L ++ [(⟨A8, n, c8, xs⟩ : Rb)]).drop 1 := by unfold ringL; rw [if_pos (by rw [HLL.out]; omega)]
        rw [e2]
        refine ⟨_, h12, ?_, fun k hk => ?_⟩
        · exact (((HF1.out.trans ((Fr.of_grow hbw10).mono (S' := RgF g (.slice A l c)) (fun _ _ h => h.elim)) (fun _ _ h => h))).setCell (p := ⟨g, 2, none⟩) (fun _ => .inl rfl) _).setCell (p := ⟨g, 1, none⟩) (fun _ => .inl rfl) _
        · rcases hk with hk | hk
          · exact .inl (.inl hk)
          · have := (hr10.lt k hk).1
            have h9 := HF1.out.size
            exact .inr (by simp at this; omega))
      have m0 : w10.cell? ⟨g, 0, none⟩ = some (.int .i64 size) := h10.blk.cell 0
      have m1 : w10.cell? ⟨g, 1, none⟩ = some (.int .u32 next) := h10.blk.cell 1
      have m2 : w10.cell? ⟨g, 2, none⟩ = some (.slice (some ⟨g9, o9, none⟩) (l + 1) c9) := h10.blk.cell 2
      have mf1 := h10.blk.free 1
      have mf2 := h10.blk.free 2
      have ml := h10.blk.lt
      clear h10 h11 h12 hr10 hb10 hbw10 hcut
      go_wp2
      go_ret2
      first | rw [hq9.out] | rw [hq8.out]
      exact ⟨rfl, ⟨A8, n, c8, xs⟩, rfl, rfl, HRES.out⟩
    · have d9 : decide (size < (l : Int) + 1) = false := decide_eq_false hbig
      have d9' : decide (size ≤ (l : Int)) = false := decide_eq_false (by omega)
      have HRES : Hid (∀ m, RgGo w B g (.slice A l c) size ((next + 1) % 4294967296) (ringL size L ⟨A8, n, c8, xs⟩) ((W1.drewN m).setCell ⟨g, 1, none⟩ (.int .u32 ((next + 1) % 4294967296)))) := Lib.hid (fun m => by
        have e2 : ringL size L ⟨A8, n, c8, xs⟩ = L ++ [(⟨A8, n, c8, xs⟩ : Rb)] := by unfold ringL; rw [if_neg (by rw [HLL.out]; exact hbig)]
        rw [e2]
        have h10 := H1.out.grow (sl_below_drewN (Below.refl _ _) m)
        exact ⟨_, rg_set1 h10 _, (HF1.out.drewN m).setCell (p := ⟨g, 1, none⟩) (fun _ => .inl rfl) _, HO1.out⟩)
      clear hcut
      go_wp2
      go_ret2
      first | rw [hq9.out] | rw [hq8.out]
      exact ⟨rfl, ⟨A8, n, c8, xs⟩, rfl, rfl, HRES.out _⟩
end Go.Proofs.Ytenhcpobncmedaa
