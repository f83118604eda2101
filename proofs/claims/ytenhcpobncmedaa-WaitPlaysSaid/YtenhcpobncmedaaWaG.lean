/- Contract of Wake of wait.Queue. -/
import Derived.Test.YtenhcpobncmedaaWaF
namespace Go.Proofs.Ytenhcpobncmedaa
open Go.RowKit
set_option maxHeartbeats 400000
set_option linter.unusedVariables false
set_option linter.unusedSimpArgs false
/-- Who is woken, who is left, how many are still to be woken alone. -/
structure Wk where
  out : List Int
  left : List Wt
  n : Int
def Wk.step (s : Wk) (c : Wt) : Wk := if c.al = false then ⟨s.out ++ [c.t], s.left, s.n⟩ else if 0 < s.n then ⟨s.out ++ [c.t], s.left, s.n - 1⟩ else ⟨s.out, s.left ++ [c], s.n⟩
def wk (ws : List Wt) (n : Int) : Wk := ws.foldl Wk.step ⟨[], [], n⟩
theorem wk_take (ws : List Wt) (n : Int) {k : Nat} (h : k < ws.length) : wk (ws.take (k + 1)) n = (wk (ws.take k) n).step (ws.getD k Wt.zero) := by
  unfold wk
  rw [List.take_succ_eq_append_getElem h, List.foldl_append]
  simp [List.getD, List.getElem?_eq_getElem h]
theorem wk_len (ws : List Wt) (n : Int) : ∀ k, k ≤ ws.length → (wk (ws.take k) n).out.length + (wk (ws.take k) n).left.length = k ∧ (wk (ws.take k) n).n ≤ n ∧ (0 ≤ n → 0 ≤ (wk (ws.take k) n).n)
  | 0, _ => by simp [wk]
  | k + 1, h => by
    obtain ⟨h1, h2, h3⟩ := wk_len ws n k (by omega)
    rw [wk_take ws n (by omega)]
    unfold Wk.step
    split
    · simp; omega
    · split
      · simp; omega
      · simp; omega
structure WkRel (w : World) (s : Wk) (vn v6 v7 : Value) (wr : World) : Prop where
  n : vn = .int .i64 s.n
  out : Row wr w.heap.size 3 1 v6 s.out.length (s.out.map (Value.int .i64))
  left : Row wr w.heap.size 155 2 v7 s.left.length (s.left.flatMap Wt.cells)
  low : Below w.heap.size w wr
namespace WkRel
variable {w wr w' : World} {s : Wk} {vn v6 v7 : Value}
theorem grow (h : WkRel w s vn v6 v7 wr) (hb : Below wr.heap.size wr w') : WkRel w s vn v6 v7 w' := ⟨h.n, h.out.grow hb, h.left.grow hb, h.low.trans (hb.mono h.low.size)⟩
theorem addOut (h : WkRel w s vn v6 v7 wr) {X : Obj} {v9 : Value} {t m : Int} {w1 : World} (hr : Row w1 w.heap.size 3 1 v9 (s.out.length + 1) (s.out.map (Value.int .i64) ++ [.int .i64 t])) (hg : (wr.alloc X).grownBy w1 v6.ownBlock) : WkRel w ⟨s.out ++ [t], s.left, m⟩ (.int .i64 m) v9 v7 w1 := by
  have hf : Fr (fun k => v6.ownBlock = some k) wr w1 := ((Fr.refl _ wr).alloc X).grown hg (fun k e _ => e)
  refine ⟨rfl, ?_, h.left.fr hf (fun k hk hk' => wa_row_row h.left h.out (by decide) k hk hk'), h.low.trans (hf.below h.low.size (fun k hk => (h.out.lt k hk).1))⟩
  rw [List.length_append, List.map_append]; exact hr
theorem addLeft (h : WkRel w s vn v6 v7 wr) {X : Obj} {v9 : Value} {t m : Int} {al : Bool} {w1 : World} (hr : Row w1 w.heap.size 155 2 v9 (s.left.length + 1) (s.left.flatMap Wt.cells ++ [.int .i64 t, .bool al])) (hg : (wr.alloc X).grownBy w1 v7.ownBlock) (hm : vn = .int .i64 m) : WkRel w ⟨s.out, s.left ++ [⟨t, al⟩], m⟩ (.int .i64 m) v6 v9 w1 := by
  have hf : Fr (fun k => v7.ownBlock = some k) wr w1 := ((Fr.refl _ wr).alloc X).grown hg (fun k e _ => e)
  refine ⟨rfl, h.out.fr hf (fun k hk hk' => wa_row_row h.left h.out (by decide) k hk' hk), ?_, h.low.trans (hf.below h.low.size (fun k hk => (h.left.lt k hk).1))⟩
  rw [List.length_append, List.flatMap_append]; exact hr
end WkRel
set_option maxRecDepth 100000 in
theorem wake_bad (g : Nat) (n : Int) (w : World) (h : n < 0) :
    Calls Try.prog 48 #[.pointer (some ⟨g, 0, none⟩), .int .i64 n] w fun e w' => e = .returned (.tuple #[.slice none 0 0, .int .i64 1]) ∧ w = w' := by
  have d : decide (n < 0) = true := by simpa using h
  clear h
  go_enter Try.func48, Try.ntmps48
  go_wp2
  go_ret2
  exact ⟨rfl, rfl⟩
def WakePost (w : World) (B g b : Nat) (vl : Value) (ws : List Wt) (f : Int → Option Int) (cnt : Nat) (nn : Int) (outs : List Int) (e : Ending) (w' : World) : Prop :=
  ∃ A c, e = .returned (.tuple #[.slice A outs.length c, .int .i64 0]) ∧ RD w' w'.heap.size A outs.length outs ∧ WaGo w B g b vl ws f cnt nn w'
set_option maxHeartbeats 1000000 in
set_option maxRecDepth 100000 in
theorem wake_ok (g b : Nat) (vl : Value) (ws : List Wt) (f : Int → Option Int) (cnt : Nat) (nn n : Int) (w : World) (B : Nat) (h : WaSt w B g b vl ws f cnt nn) (hB : B ≤ w.heap.size) (hn : 0 ≤ n) (hnn : 0 ≤ nn ∧ nn < 4611686018427387904) (hl : ws.length ≤ 1000) (hn9 : n ≤ 9223372036854775807) :
    Calls Try.prog 48 #[.pointer (some ⟨g, 0, none⟩), .int .i64 n] w (WakePost w B g b vl (wk ws n).left f cnt (nn + 1) (wk ws n).out) := by
  obtain ⟨i0, hi, hz0, hz1, hz2⟩ := info_parts Try.infoInt
  obtain ⟨i5, hi5, hy0, hy1, hy2⟩ := info_parts infoWt
  have d : decide (n < 0) = false := by simpa using hn
  have k2 := h.blk.cell 2
  have kf2 := h.blk.free 2
  have klt := h.blk.lt
  have h0 := h.setN (nn + 1)
  have hfr0 : Fr (WaF g b vl) w (w.setCell ⟨g, 2, none⟩ (.int .i64 (nn + 1))) := (Fr.refl _ w).setCell (p := ⟨g, 2, none⟩) (fun _ => .inl rfl) _
  obtain ⟨w0, hw0⟩ : ∃ x, w.setCell ⟨g, 2, none⟩ (.int .i64 (nn + 1)) = x := ⟨_, rfl⟩
  rw [hw0] at h0 hfr0
  obtain ⟨A, c, hv, hrs, hc1, hc2⟩ := h0.rs
  subst hv
  have c0 := h0.blk.cell 0
  have cl := h0.blk.lt
  have H0 := Lib.hid h0
  have HFR0 := Lib.hid hfr0
  have hsz0 : w0.heap.size = w.heap.size := by rw [← hw0]; simp
  have hwl := wk_len ws n
  have hrel0 : WkRel w0 (wk (ws.take 0) n) (.int .i64 n) (.slice none 0 0) (.slice none 0 0) w0 := ⟨rfl, Row.nil _ _ _ _, Row.nil _ _ _ _, Below.refl _ _⟩
  have HSZ := Lib.hid hsz0
  clear h h0 hfr0 hsz0
  generalize hll : ws.length = l at *
  have HLL := Lib.hid hll
  have HWL := Lib.hid hwl
  clear hll hwl
  go_enter Try.func48, Try.ntmps48
  go_wp2
  clear hw0 k2 kf2 klt
  go_loopw [1, 6, 7, 24] (fun vn v6 v7 i wr => ∃ k : Nat, k ≤ l ∧ i = .int .i64 k ∧ WkRel w0 (wk (ws.take k) n) vn v6 v7 wr) (fun _ _ _ i _ => l - (intOf i).toNat)
  case atStart => exact ⟨0, by omega, rfl, hrel0⟩
  case round =>
    obtain ⟨k, hk, rfl, hR⟩ := hrel
    clear hrel0
    obtain ⟨hw1, hw2, hw3⟩ := HWL.out k hk
    have hw3' := hw3 hn
    clear hw3
    have hsz := hR.low.size
    by_cases hlt : k < l
    · obtain ⟨b9, o9, rfl, hb9, k0, k1⟩ := Wt.at_ (hrs.below' hR.low (Nat.le_refl _)) hlt
      have HT := Lib.hid (wk_take ws n (k := k) (by rw [HLL.out]; exact hlt))
      generalize wk (ws.take k) n = s at *
      generalize ws.getD k Wt.zero = y at *
      obtain ⟨yt, yal⟩ := y
      obtain ⟨so, sl, sn⟩ := s
      dsimp only at k0 k1 hw1 hw2 hw3'
      obtain ⟨A3, c3, hv3, hc3, hd3⟩ := hR.out.shape
      obtain ⟨A4, c4, hv4, hc4, hd4⟩ := hR.left.shape
      have hvn := hR.n
      dsimp only at hv3 hv4 hvn
      subst hv3
      subst hv4
      subst hvn
      have hR2 := hR.grow ((Below.refl wr.heap.size wr).alloc (Nat.le_refl _) (.cells #[.int .i64 yt, .bool yal] 155))
      have HR2 := Lib.hid hR2
      have hro := hR2.out
      have hrl := hR2.left
      dsimp only at hro hrl
      cases yal
      · have HS : Hid (Wk.step ⟨so, sl, sn⟩ ⟨yt, false⟩ = ⟨so ++ [yt], sl, sn⟩) := Lib.hid (by unfold Wk.step; simp)
        have hlo : so.length ≤ 1000 := by omega
        generalize hso : so.length = ol at *
        have HSO := Lib.hid hso
        clear hso hR hR2 hw1
        go_wp2_with (at_builtin; refine wpList_append_row _ rfl (.tmp 36) (.tmp 39) 45 rfl w0.heap.size 3 i0 (.int .i64 0) 1 8 Try.underlying45 hi hz0 hz1 hz2 rfl (by decide) (.slice A3 ol c3) ol (so.map (Value.int .i64)) rfl (hro.alloc _) (wr.heap.size + 1 + 1) (some ⟨wr.heap.size + 1, 0, none⟩) 1 1 [.int .i64 yt] rfl (by have := reads_one (wr.alloc (.cells #[.int .i64 yt, .bool false] 155)) (.int .i64 yt) 3; simpa using this) (by simp [Value.oneCell']) (by unfold maxLen; omega) (by omega) (by simp; omega) ?_)
        intro A8 c8 w8 hr8 hg8 ho8
        have HN := Lib.hid (HR2.out.addOut (m := sn) (by rw [HSO.out]; exact hr8) hg8)
        clear hr8 hg8 ho8
        go_wp2
        go_roundw
        case rel => exact ⟨k + 1, by omega, by go_num, by rw [HT.out, HS.out]; exact HN.out⟩
        case measure => simp [intOf]; omega
      · by_cases h0n : 0 < sn
        · have HS : Hid (Wk.step ⟨so, sl, sn⟩ ⟨yt, true⟩ = ⟨so ++ [yt], sl, sn - 1⟩) := Lib.hid (by unfold Wk.step; simp [h0n])
          have hlo : so.length ≤ 1000 := by omega
          generalize hso : so.length = ol at *
          have HSO := Lib.hid hso
          have d9 : decide (0 < sn) = true := by simpa using h0n
          clear hso hR hR2 hw1 h0n
          go_wp2_with (at_builtin; refine wpList_append_row _ rfl (.tmp 44) (.tmp 47) 45 rfl w0.heap.size 3 i0 (.int .i64 0) 1 8 Try.underlying45 hi hz0 hz1 hz2 rfl (by decide) (.slice A3 ol c3) ol (so.map (Value.int .i64)) rfl (hro.alloc _) (wr.heap.size + 1 + 1) (some ⟨wr.heap.size + 1, 0, none⟩) 1 1 [.int .i64 yt] rfl (by have := reads_one (wr.alloc (.cells #[.int .i64 yt, .bool true] 155)) (.int .i64 yt) 3; simpa using this) (by simp [Value.oneCell']) (by unfold maxLen; omega) (by omega) (by simp; omega) ?_)
          intro A8 c8 w8 hr8 hg8 ho8
          have HN := Lib.hid (HR2.out.addOut (m := sn - 1) (by rw [HSO.out]; exact hr8) hg8)
          clear hr8 hg8 ho8
          go_wp2
          go_roundw
          case rel => exact ⟨k + 1, by omega, by go_num, by rw [HT.out, HS.out]; exact HN.out⟩
          case measure => simp [intOf]; omega
        · have HS : Hid (Wk.step ⟨so, sl, sn⟩ ⟨yt, true⟩ = ⟨so, sl ++ [⟨yt, true⟩], sn⟩) := Lib.hid (by unfold Wk.step; simp [h0n])
          have hlo : sl.length ≤ 1000 := by omega
          generalize hso : sl.length = ol at *
          have HSO := Lib.hid hso
          have d9 : decide (0 < sn) = false := by simpa using h0n
          clear hso hR hR2 hw1 h0n
          go_wp2_with (at_builtin; refine wpList_append_row _ rfl (.tmp 28) (.tmp 30) 151 rfl w0.heap.size 155 i5 (.agg #[.int .i64 0, .bool false]) 2 16 Try.underlying151 hi5 hy0 hy1 hy2 rfl (by decide) (.slice A4 ol c4) ol (sl.flatMap Wt.cells) rfl (hrl.alloc _) (wr.heap.size + 1 + 1) (some ⟨wr.heap.size + 1, 0, none⟩) 1 1 [.int .i64 yt, .bool true] rfl (by have := reads_two (wr.alloc (.cells #[.int .i64 yt, .bool true] 155)) (.int .i64 yt) (.bool true) 155; simpa using this) (wa_oneCell yt true) (by unfold maxLen; omega) (by omega) (by simp; omega) ?_)
          intro A8 c8 w8 hr8 hg8 ho8
          have HN := Lib.hid (HR2.out.addLeft (m := sn) (by rw [HSO.out]; exact hr8) hg8 rfl)
          clear hr8 hg8 ho8
          go_wp2
          go_roundw
          case rel => exact ⟨k + 1, by omega, by go_num, by rw [HT.out, HS.out]; exact HN.out⟩
          case measure => simp [intOf]; omega
    · obtain rfl : k = l := by omega
      have e1 : ws.take k = ws := List.take_of_length_le (by rw [HLL.out]; exact Nat.le_refl _)
      rw [e1] at hR
      have HRR := Lib.hid hR
      obtain ⟨A3, c3, hv3, hc3, hd3⟩ := hR.out.shape
      obtain ⟨A4, c4, hv4, hc4, hd4⟩ := hR.left.shape
      subst hv3
      subst hv4
      have h1 := H0.out.grow hR.low
      have j0 := h1.blk.cell 0
      have jf := h1.blk.free 0
      have jl := h1.blk.lt
      have hfin : Hid (WakePost w B g b (.slice A k c) (wk ws n).left f cnt (nn + 1) (wk ws n).out (.returned (.tuple #[.slice A3 (wk ws n).out.length c3, .int .i64 0])) (wr.setCell ⟨g, 0, none⟩ (.slice A4 (wk ws n).left.length c4))) := Lib.hid (by
        have ho2 := hR.out.setCell (p := ⟨g, 0, none⟩) (wa_row_blk hR.out h1.blk (by decide)) (.slice A4 (wk ws n).left.length c4)
        have hB0 : B ≤ w0.heap.size := by rw [HSZ.out]; exact hB
        refine ⟨A3, c3, rfl, RD.of_row ho2, _, h1.setRow (hR.left.base_le hB0), ?_, fun j hj => ?_⟩
        · exact (HFR0.out.trans ((Fr.of_grow hR.low).mono (fun _ _ h => h.elim)) (fun _ _ h => h)).setCell (p := ⟨g, 0, none⟩) (fun _ => .inl rfl) _
        · rcases hj with hj | hj | hj
          · exact .inl (.inl hj)
          · exact .inl (.inr (.inl hj))
          · exact .inr (by have := (hR.left.lt j hj).1; have := HSZ.out; omega))
      clear hR h1
      generalize (wk ws n).out.length = l3 at *
      generalize (wk ws n).left.length = l4 at *
      go_wp2
      go_ret2
      exact hfin.out
end Go.Proofs.Ytenhcpobncmedaa
