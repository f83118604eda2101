/- words.Print, ringref4.WordPrint (printed by mkPtC.py). -/
import Derived.Test.YtdchopaokjpmdaaDoorPtB
namespace Go.Proofs.YtdchopaokjpmdaaDoor
open Go.RowKit
set_option maxHeartbeats 400000
set_option linter.unusedVariables false
set_option linter.unusedSimpArgs false
structure Pt where
  text : ByteArray
  var : Bool
  quoted : Bool
def Pt.zero : Pt := ⟨ByteArray.empty, false, false⟩
def Pt.cells (p : Pt) : List Value := [.string p.text, .bool p.var, .bool p.quoted]
/-- A token with its parts' place in memory. -/
structure Tm where
  op : ByteArray
  A : Option Addr
  n : Nat
  c : Nat
  ps : List Pt
  k : Int
def Tm.vals (m : Tm) : Array Value := #[.string m.op, .slice m.A m.n m.c, .int .i64 m.k]
/-- A part, printed. -/
def prB (p : Pt) : List UInt8 := if p.var = true then (if p.quoted = true then [34, 36] ++ p.text.data.toList ++ [34] else [36] ++ p.text.data.toList) else (if p.quoted = true then quoteL p.text.data.toList else p.text.data.toList)
def prL (ps : List Pt) : List UInt8 := ps.flatMap prB
def printL (m : Tm) : List UInt8 := if m.op.size ≠ 0 then m.op.data.toList else prL m.ps
theorem prL_snoc (ps : List Pt) (p : Pt) : prL (ps ++ [p]) = prL ps ++ prB p := by
  unfold prL; rw [List.flatMap_append]; simp
theorem prB_len (p : Pt) (h : p.text.size ≤ 1048576) : (prB p).length ≤ 4194310 := by
  have hq := qL_len p.text.data.toList
  have hl := data_len p.text
  rw [hl] at hq
  unfold prB quoteL
  repeat' split
  all_goals (simp only [List.length_append, List.length_cons, List.length_nil, hl]; omega)
theorem prL_len : ∀ (ps : List Pt), (∀ p ∈ ps, p.text.size ≤ 1048576) → (prL ps).length ≤ ps.length * 4194310
  | [], _ => by simp [prL]
  | p :: ps, h => by
    have h1 := prB_len p (h p (by simp))
    have h2 := prL_len ps (fun q hq => h q (by simp [hq]))
    have e : prL (p :: ps) = prB p ++ prL ps := rfl
    rw [e, List.length_append, List.length_cons, Nat.add_mul]
    omega
theorem empty_text {s : ByteArray} : (s.toList == []) = decide (s.size = 0) := by
  rw [ByteArray.toList_eq, Bool.eq_iff_iff]
  have h : s.data.toList.length = s.size := by simp
  simp only [beq_iff_eq, decide_eq_true_eq]
  constructor
  · intro e; rw [e] at h; exact h.symm
  · intro e; rw [e] at h; exact List.eq_nil_of_length_eq_zero h
theorem bytes_none {O : ByteArray} (h : O.size = 0) : O.toList.isEmpty = true := by
  have h' := empty_text (s := O)
  rw [decide_eq_true h] at h'
  cases hl : O.toList with
  | nil => rfl
  | cons x y => rw [hl] at h'; cases h'
theorem bytes_some {O : ByteArray} (h : O.size ≠ 0) : O.toList.isEmpty = false := by
  have h' := empty_text (s := O)
  rw [decide_eq_false h] at h'
  cases hl : O.toList with
  | nil => rw [hl] at h'; cases h'
  | cons x y => rfl
/-- A token whose parts lie below block B and are of bounded size. -/
structure Tm.Ok (m : Tm) (w : World) (B : Nat) : Prop where
  rs : RS Pt.cells 3 w B m.A m.n m.ps
  few : m.n ≤ 1048576
  small : ∀ p ∈ m.ps, p.text.size ≤ 1048576
  ops : m.op.size ≤ 1048576
theorem Tm.Ok.below' {m : Tm} {w w' : World} {B B' : Nat} (h : m.Ok w B) (hb : Below B' w w') (hB : B ≤ B') : m.Ok w' B := ⟨h.rs.below' hb hB, h.few, h.small, h.ops⟩
set_option maxHeartbeats 4000000 in
set_option maxRecDepth 100000 in
theorem print_any (m : Tm) (w : World) (B : Nat) (h : m.Ok w B) (hB : B ≤ w.heap.size) (hv : VarOk w) : Calls Tryd.prog 6 #[.agg m.vals] w (SaysB (.string (bs (printL m))) w) := by
  obtain ⟨op, A, n, c, ps, kk⟩ := m
  have hP : Hid (printL ⟨op, A, n, c, ps, kk⟩ = if op.size ≠ 0 then op.data.toList else prL ps) := Lib.hid rfl
  obtain ⟨L, hL⟩ : ∃ L, printL ⟨op, A, n, c, ps, kk⟩ = L := ⟨_, rfl⟩
  rw [hL] at hP ⊢
  clear hL
  unfold Tm.vals
  dsimp only
  have hx0 := Blk.new w #[.string op, .slice A n c, .int .i64 kk] 24
  have hb0 : Below w.heap.size w (w.alloc (.cells #[.string op, .slice A n c, .int .i64 kk] 24)) := (Below.refl _ _).alloc (Nat.le_refl _) _
  have h0 := h.below' hb0 hB
  have hv0 := hv.below hb0 hv.1
  obtain ⟨hrs, hfew, hsm, hops⟩ := h0
  dsimp only at hrs hfew hsm hops
  have hc0 := hx0.cell
  have hlt0 := hx0.lt
  have hlen := hrs.2
  by_cases ho : op.size = 0
  rotate_left
  · have e := hP.out
    rw [if_pos ho] at e
    have E := Lib.hid e
    clear e
    have hne := bytes_some ho
    go_enter Tryd.func6, Tryd.ntmps6
    go_wp2
    go_ret
    exact ⟨by rw [E.out]; rfl, hb0⟩
  have e := hP.out
  rw [if_neg (fun h => h ho)] at e
  have E := Lib.hid e
  clear e hP
  have hne := bytes_none ho
  obtain ⟨W, hW⟩ : ∃ W, W = w.alloc (.cells #[.string op, .slice A n c, .int .i64 kk] 24) := ⟨_, rfl⟩
  rw [← hW] at hx0 hb0 hrs hv0 hc0 hlt0
  have HN := Lib.hid (Lib.fresh_isBuilder 32 5 W)
  have hbW : Below W.heap.size W (W.alloc (.cells #[.pointer none, .slice none 0 0] 32)) := (Below.refl _ _).alloc (Nat.le_refl _) _
  obtain ⟨g0, hg0⟩ : ∃ g, w.heap.size = g := ⟨_, rfl⟩
  rw [hg0] at hb0 hx0 hc0 hlt0
  have HG0 := Lib.hid hg0
  have hBg : B ≤ g0 := by omega
  have hb1 : W.heap.size = g0 + 1 := by rw [hW, ← hg0]; simp
  rw [hb1] at HN hbW hlt0
  have HB0 := Lib.hid hb0
  have HW := Lib.hid hW
  have HB1 := Lib.hid hb1
  clear hW hb0
  go_enter Tryd.func6, Tryd.ntmps6
  go_wp2_with fail
  rw [← HW.out]
  clear HW
  generalize g0 + 1 = b at *
  clear hg0
  have H0 := Lib.hid (show Lib.IsBuilder 32 5 b b (Lib.byteCells (prL (ps.take 0))) (W.alloc (.cells #[.pointer none, .slice none 0 0] 32)) ∧ Below b W (W.alloc (.cells #[.pointer none, .slice none 0 0] 32)) from ⟨HN.out, hbW⟩)
  clear HN hbW hb1 hx0
  go_loopw [14] (fun i wr => ∃ j : Nat, j ≤ n ∧ i = .int .i64 j ∧ Lib.IsBuilder 32 5 b b (Lib.byteCells (prL (ps.take j))) wr ∧ Below b W wr) (fun i _ => n - (intOf i).toNat)
  case atStart => exact ⟨0, Nat.zero_le _, rfl, H0.out⟩
  case round =>
    clear H0
    obtain ⟨j, hj, rfl, hbl, hbw⟩ := hrel
    have hsw := hbw.size
    rw [HB1.out] at hsw
    by_cases hjn : j < n
    rotate_left
    · obtain rfl : j = n := by omega
      have hbs : b ≤ wr.heap.size := hsw
      have HS := Lib.hid (string_any b b _ wr hbl hbs)
      rw [List.take_of_length_le (by omega)] at HS
      clear hbl
      go_wp2_with fail
      refine HS.out.mono ?_
      rintro e w6 ⟨rfl, hb6⟩
      have hfin := Lib.hid (HB0.out.trans ((hbw.trans hb6).mono (by omega)))
      go_wp2
      go_ret
      exact ⟨by rw [E.out]; rfl, by rw [HG0.out]; exact hfin.out⟩
    obtain ⟨bb, o, rfl, hbb, hm, hcs⟩ := RS.at_ (cl := Pt.cells) (s := 3) (fun _ => rfl) Pt.zero hrs hjn
    have hjl : j < ps.length := by omega
    have x0 := (hbw.cell (p := ⟨bb, o + j * 3 + 0, none⟩) (show bb < b by omega)).trans (hcs 0 _ rfl)
    have x1 := (hbw.cell (p := ⟨bb, o + j * 3 + 1, none⟩) (show bb < b by omega)).trans (hcs 1 _ rfl)
    have x2 := (hbw.cell (p := ⟨bb, o + j * 3 + 2, none⟩) (show bb < b by omega)).trans (hcs 2 _ rfl)
    have hpt := hsm _ hm
    have hgj : ps.getD j Pt.zero = ps[j] := by simp [List.getD, List.getElem?_eq_getElem hjl]
    have hst : ps.take (j + 1) = ps.take j ++ [ps.getD j Pt.zero] := by rw [List.take_succ_eq_append_getElem hjl, hgj]
    have hpl := prL_len (ps.take j) (fun p hp => hsm p (List.mem_of_mem_take hp))
    rw [List.length_take] at hpl
    have hpl2 : (prL (ps.take j)).length ≤ 5000000000000 := by
      have := Nat.min_le_left j ps.length
      have : min j ps.length * 4194310 ≤ 1048576 * 4194310 := Nat.mul_le_mul_right _ (by omega)
      omega
    clear hcs hm hgj hpl
    generalize ps.getD j Pt.zero = p at *
    have HST := Lib.hid hst
    clear hst
    have HFin := Lib.hid (fun (s : ByteArray) (w7 : World) (he : s.data.toList = prB p) (h7 : Lib.IsBuilder 32 5 b b (Lib.byteCells (prL (ps.take j) ++ s.data.toList)) w7) (hb7 : Below b W w7) =>
      (show Lib.IsBuilder 32 5 b b (Lib.byteCells (prL (ps.take (j + 1)))) w7 ∧ Below b W w7 from ⟨by rw [HST.out, prL_snoc, ← he]; exact h7, hb7⟩))
    obtain ⟨pt, pv, pq⟩ := p
    dsimp only at x0 x1 x2 hpt HFin
    rw [Nat.add_zero] at x0
    have hkn : (j : Int) < n := by omega
    have hk0 : (0 : Int) ≤ j := by omega
    have hbs5 : b ≤ wr.heap.size := hsw
    have hc1 := (hbw.cell (p := ⟨g0, 1, none⟩) (show g0 < b by omega)).trans (hc0 1)
    cases pv with
    | true =>
      cases pq with
      | true =>
        have hB5 : Below wr.heap.size wr (wr.alloc (.cells #[.string pt, .bool true, .bool true] 34)) := (Below.refl _ _).alloc (Nat.le_refl _) _
        have e1 : (⟨#[34, 36]⟩ ++ pt ++ ⟨#[34]⟩).data.toList = prB ⟨pt, true, true⟩ := show (⟨#[34, 36]⟩ ++ pt ++ ⟨#[34]⟩ : ByteArray).data.toList = [34, 36] ++ pt.data.toList ++ [34] from by simp [ByteArray.data_append]
        have hsz : (⟨#[34, 36]⟩ ++ pt ++ ⟨#[34]⟩).size ≤ 4194310 := by rw [← data_len, e1]; exact prB_len _ hpt
        have hl9 : (prL (ps.take j)).length + (⟨#[34, 36]⟩ ++ pt ++ ⟨#[34]⟩).size ≤ 140737488355328 := by omega
        have HWr := Lib.hid (fun W (hB : Below wr.heap.size wr W) => writeString_any b b (prL (ps.take j)) (⟨#[34, 36]⟩ ++ pt ++ ⟨#[34]⟩) W (builder_grow hbl hB) hl9 (Nat.le_trans hbs5 hB.size))
        have HX := Lib.hid (fun w7 => HFin.out (⟨#[34, 36]⟩ ++ pt ++ ⟨#[34]⟩) w7 e1)
        have m1 : pt.size ≤ 1048576 := hpt
        have m2 : ¬ 9223372036854775807 < 2 + pt.size := by omega
        have m3 : ¬ 9223372036854775807 < 2 + pt.size + 1 := by omega
        have m4 : ¬ 9223372036854775807 < 1 + pt.size := by omega
        clear hbl hpl2 hsz e1 HFin hsm hl9
        go_wp2_with fail
        refine (HWr.out (wr.alloc (.cells #[.string pt, .bool true, .bool true] 34)) hB5).mono ?_
        rintro e w7 ⟨rfl, hbl7, hb7⟩
        have hX := Lib.hid (HX.out w7 hbl7 (hbw.trans ((hB5.mono hbs5).trans hb7)))
        clear hbl7 hb7 HX HWr
        go_wp2
        go_roundw
        case rel => exact ⟨j + 1, by omega, by go_num, hX.out.1, hX.out.2⟩
        case measure => simp [intOf]; omega
      | false =>
        have hB5 : Below wr.heap.size wr (wr.alloc (.cells #[.string pt, .bool true, .bool false] 34)) := (Below.refl _ _).alloc (Nat.le_refl _) _
        have e1 : (⟨#[36]⟩ ++ pt).data.toList = prB ⟨pt, true, false⟩ := show (⟨#[36]⟩ ++ pt : ByteArray).data.toList = [36] ++ pt.data.toList from by simp [ByteArray.data_append]
        have hsz : (⟨#[36]⟩ ++ pt).size ≤ 4194310 := by rw [← data_len, e1]; exact prB_len _ hpt
        have hl9 : (prL (ps.take j)).length + (⟨#[36]⟩ ++ pt).size ≤ 140737488355328 := by omega
        have HWr := Lib.hid (fun W (hB : Below wr.heap.size wr W) => writeString_any b b (prL (ps.take j)) (⟨#[36]⟩ ++ pt) W (builder_grow hbl hB) hl9 (Nat.le_trans hbs5 hB.size))
        have HX := Lib.hid (fun w7 => HFin.out (⟨#[36]⟩ ++ pt) w7 e1)
        have m1 : pt.size ≤ 1048576 := hpt
        have m2 : ¬ 9223372036854775807 < 2 + pt.size := by omega
        have m3 : ¬ 9223372036854775807 < 2 + pt.size + 1 := by omega
        have m4 : ¬ 9223372036854775807 < 1 + pt.size := by omega
        clear hbl hpl2 hsz e1 HFin hsm hl9
        go_wp2_with fail
        refine (HWr.out (wr.alloc (.cells #[.string pt, .bool true, .bool false] 34)) hB5).mono ?_
        rintro e w7 ⟨rfl, hbl7, hb7⟩
        have hX := Lib.hid (HX.out w7 hbl7 (hbw.trans ((hB5.mono hbs5).trans hb7)))
        clear hbl7 hb7 HX HWr
        go_wp2
        go_roundw
        case rel => exact ⟨j + 1, by omega, by go_num, hX.out.1, hX.out.2⟩
        case measure => simp [intOf]; omega
    | false =>
      cases pq with
      | true =>
        have hB5 : Below wr.heap.size wr (wr.alloc (.cells #[.string pt, .bool false, .bool true] 34)) := (Below.refl _ _).alloc (Nat.le_refl _) _
        have hv1 := hv0.below (hbw.trans (hB5.mono hsw)) (by omega)
        have HQ := Lib.hid (fun W hv => quote_any pt W hpt hv)
        unfold SaysB at HQ
        have e1 : (bs (quoteL pt.data.toList)).data.toList = prB ⟨pt, false, true⟩ := rfl
        have hsz : (bs (quoteL pt.data.toList)).size ≤ 4194310 := by rw [← data_len, e1]; exact prB_len _ hpt
        have hl9 : (prL (ps.take j)).length + (bs (quoteL pt.data.toList)).size ≤ 140737488355328 := by omega
        have HWr := Lib.hid (fun W (hB : Below wr.heap.size wr W) => writeString_any b b (prL (ps.take j)) (bs (quoteL pt.data.toList)) W (builder_grow hbl hB) hl9 (Nat.le_trans hbs5 hB.size))
        have HX := Lib.hid (fun w7 => HFin.out (bs (quoteL pt.data.toList)) w7 e1)
        have m1 : pt.size ≤ 1048576 := hpt
        have m2 : ¬ 9223372036854775807 < 2 + pt.size := by omega
        have m3 : ¬ 9223372036854775807 < 2 + pt.size + 1 := by omega
        have m4 : ¬ 9223372036854775807 < 1 + pt.size := by omega
        clear hbl hpl2 hsz e1 HFin hsm hl9
        go_wp2_with fail
        refine (HQ.out _ hv1).mono ?_
        rintro e w6 ⟨rfl, hb6⟩
        have hB6 := hB5.trans (hb6.mono hB5.size)
        go_wp2_with fail
        refine (HWr.out w6 hB6).mono ?_
        rintro e w7 ⟨rfl, hbl7, hb7⟩
        have hX := Lib.hid (HX.out w7 hbl7 (hbw.trans ((hB6.mono hbs5).trans hb7)))
        clear hbl7 hb7 HX HWr
        go_wp2
        go_roundw
        case rel => exact ⟨j + 1, by omega, by go_num, hX.out.1, hX.out.2⟩
        case measure => simp [intOf]; omega
      | false =>
        have hB5 : Below wr.heap.size wr (wr.alloc (.cells #[.string pt, .bool false, .bool false] 34)) := (Below.refl _ _).alloc (Nat.le_refl _) _
        have e1 : pt.data.toList = prB ⟨pt, false, false⟩ := rfl
        have hsz : pt.size ≤ 4194310 := by rw [← data_len, e1]; exact prB_len _ hpt
        have hl9 : (prL (ps.take j)).length + pt.size ≤ 140737488355328 := by omega
        have HWr := Lib.hid (fun W (hB : Below wr.heap.size wr W) => writeString_any b b (prL (ps.take j)) pt W (builder_grow hbl hB) hl9 (Nat.le_trans hbs5 hB.size))
        have HX := Lib.hid (fun w7 => HFin.out pt w7 e1)
        have m1 : pt.size ≤ 1048576 := hpt
        have m2 : ¬ 9223372036854775807 < 2 + pt.size := by omega
        have m3 : ¬ 9223372036854775807 < 2 + pt.size + 1 := by omega
        have m4 : ¬ 9223372036854775807 < 1 + pt.size := by omega
        clear hbl hpl2 hsz e1 HFin hsm hl9
        go_wp2_with fail
        refine (HWr.out (wr.alloc (.cells #[.string pt, .bool false, .bool false] 34)) hB5).mono ?_
        rintro e w7 ⟨rfl, hbl7, hb7⟩
        have hX := Lib.hid (HX.out w7 hbl7 (hbw.trans ((hB5.mono hbs5).trans hb7)))
        clear hbl7 hb7 HX HWr
        go_wp2
        go_roundw
        case rel => exact ⟨j + 1, by omega, by go_num, hX.out.1, hX.out.2⟩
        case measure => simp [intOf]; omega
end Go.Proofs.YtdchopaokjpmdaaDoor
