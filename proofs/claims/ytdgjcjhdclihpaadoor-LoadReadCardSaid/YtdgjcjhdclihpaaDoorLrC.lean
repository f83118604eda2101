/- load.page f23 (printed by mkLrC.py). -/
import Derived.Test.YtdgjcjhdclihpaaDoorLrB
import Derived.Test.YtdgjcjhdclihpaaDoorLdD
namespace Go.Proofs.YtdgjcjhdclihpaaDoor
open Go.RowKit
set_option maxHeartbeats 400000
set_option linter.unusedVariables false
set_option linter.unusedSimpArgs false
/-- 's[k:]', its address under one name. -/
theorem slice_cut (A : Option Addr) (m c n : Nat) (h : n ≤ m) (hm : m ≤ c) (hc : c ≤ 9223372036854775807) : ∃ A', A' = (if c = n then A else A.map (·.add (n * 1))) ∧ ∀ w, (Instr.slice 26 (.slice A m c) (some (.int .i64 n)) none none).run Tryd.prog w = .ok (.slice A' (m - n) (c - n)) w := by
  have hel : Tryd.prog.elem 26 = 5 := by kernel_rfl
  have hs : ∀ W, (sizeOf 5).run Tryd.prog W = .ok 1 W := fun W => by kernel_rfl
  refine ⟨_, rfl, fun w => ?_⟩
  rw [run_slice_l (P := Tryd.prog) w 26 A m c (by rw [hel]; exact Tryd.underlying26) .i64 n (by omega) (by omega), hel, hs]
  simp [sliced, Result.andThen]
theorem rb_take {w : World} {B n k : Nat} {A : Option Addr} {xs : List Int} (h : RB w B A n xs) (hk : k ≤ n) : RB w B A k (xs.take k) := by
  have := h.1.take hk
  rw [Nat.mul_one, ← List.map_take] at this
  exact ⟨this, fun x hx => h.2 x (List.mem_of_mem_take hx)⟩
theorem rb_cut {w : World} {B n c k : Nat} {A : Option Addr} {xs : List Int} (h : RB w B A n xs) (hk : k ≤ n) (hc : n ≤ c) (A' : Option Addr) (e : A' = if c = k then A else A.map (·.add (k * 1))) : RB w B A' (n - k) (xs.drop k) := by
  have := h.1.cut hk hc
  rw [Nat.mul_one, ← List.map_drop] at this
  subst e
  rw [Nat.mul_one]
  exact ⟨this, fun x hx => h.2 x (List.mem_of_mem_drop hx)⟩
theorem wpList_slice_l {P : Program} {ops : Array Oper} {rest : List Oper} {o : Oper} {a : Act} {Q : Exit → Act → World → Prop} {w : World} (hg : o.guard = none) (t e : TypeId) (x l : Operand) (ho : o.op = .slice t x (some l) none none) (ht : P.underlying t = some (.slice e)) (vx vl : Value) (hx : a.eval x = vx) (hl : a.eval l = vl) (v : Value)
    (hrun : (Instr.slice t vx (some vl) none none).run P w = .ok v w) (h : wpList P ops Q rest (a.put o.dst v) w) : wpList P ops Q (o :: rest) a w :=
  wpList_plain hg fun K hK => by
    unfold Oper.wp execOp
    simp only [ho, hx, hl, Option.map_some, Option.map_none, Instr.sliceAt, Sem.run_bind, run_underlying ht, Result.andThen, hrun]
    exact hK _ _ h
theorem slice_two (A : Option Addr) (m c a k : Nat) (hv : Int) (hhv : hv = ((a + k : Nat) : Int)) (av : Int) (hav : av = (a : Int)) (h : a + k ≤ m) (hm : m ≤ c) (hc : c ≤ 9223372036854775807) : ∃ A', A' = (if c = a then A else A.map (·.add (a * 1))) ∧ ∀ w, (Instr.slice 26 (.slice A m c) (some (.int .i64 av)) (some (.int .i64 hv)) none).run Tryd.prog w = .ok (.slice A' k (c - a)) w := by
  have hel : Tryd.prog.elem 26 = 5 := by kernel_rfl
  have hs : ∀ W, (sizeOf 5).run Tryd.prog W = .ok 1 W := fun W => by kernel_rfl
  refine ⟨_, rfl, fun w => ?_⟩
  subst hhv; subst hav
  rw [show (((a + k : Nat)) : Int) = (a : Int) + (k : Int) by push_cast; rfl, run_slice_lh (P := Tryd.prog) w 26 A m c (by rw [hel]; exact Tryd.underlying26) .i64 .i64 a (a + k) (by omega) (by omega) (by omega), hel, hs]
  have e1 : ((a : Int) + (k : Int)).toNat = a + k := by omega
  simp [sliced, Result.andThen, e1]
theorem wpList_slice_lh {P : Program} {ops : Array Oper} {rest : List Oper} {o : Oper} {a : Act} {Q : Exit → Act → World → Prop} {w : World} (hg : o.guard = none) (t e : TypeId) (x l h : Operand) (ho : o.op = .slice t x (some l) (some h) none) (ht : P.underlying t = some (.slice e)) (vx vl vh : Value) (hx : a.eval x = vx) (hl : a.eval l = vl) (hh : a.eval h = vh) (v : Value)
    (hrun : (Instr.slice t vx (some vl) (some vh) none).run P w = .ok v w) (hK : wpList P ops Q rest (a.put o.dst v) w) : wpList P ops Q (o :: rest) a w :=
  wpList_plain hg fun K hK' => by
    unfold Oper.wp execOp
    simp only [ho, hx, hl, hh, Option.map_some, Option.map_none, Instr.sliceAt, Sem.run_bind, run_underlying ht, Result.andThen, hrun]
    exact hK' _ _ hK
def PgBad (w : World) (e : Ending) (w' : World) : Prop := e = .returned (.tuple #[.agg #[.int .i64 0, .int .i64 0, .slice none 0 0], .slice none 0 0, .bool false]) ∧ Below w.heap.size w w'
def PgGood (B : Nat) (k : Key) (r : List Int) (w : World) (e : Ending) (w' : World) : Prop :=
  ∃ A1 n1 c1 A2 n2 c2, e = .returned (.tuple #[.agg #[.int .i64 k.1, .int .i64 k.2.1, .slice A1 n1 c1], .slice A2 n2 c2, .bool true]) ∧ k.2.2.length = n1 ∧ Row w' w.heap.size 5 1 (.slice A1 n1 c1) n1 (k.2.2.map (Value.int .u8)) ∧
    RB w' B A2 n2 r ∧ n2 ≤ c2 ∧ c2 ≤ 9223372036854775807 ∧ Below w.heap.size w w'
theorem at_nat {w : World} {B n k : Nat} {A : Option Addr} {xs : List Int} (h : RB w B A n xs) (hk : k < n) : ∃ m : Nat, xs.getD k 0 = m ∧ m < 256 := by
  have := h.rng k
  exact ⟨(xs.getD k 0).toNat, by omega, by omega⟩
set_option maxHeartbeats 2000000 in
set_option maxRecDepth 100000 in
theorem page_bad (A : Option Addr) (n c : Nat) (xs : List Int) (w : World) (B : Nat) (h : RB w B A n xs) (hB : B ≤ w.heap.size) (hn : n ≤ 512) (hbad : xs.length < 3 ∨ (xs.length : Int) - 3 < xs.getD 2 0) :
    Calls Tryd.prog 23 #[.slice A n c] w (PgBad w) := by
  have hl := h.len
  rw [hl] at hbad
  have hb1 : Below w.heap.size w (w.alloc (.cells #[.int .i64 0, .int .i64 0, .slice none 0 0] 41)) := (Below.refl _ _).alloc (Nat.le_refl _) _
  have HB1 := Lib.hid hb1
  have hx := Blk.new w #[.int .i64 0, .int .i64 0, .slice none 0 0] 41
  by_cases h3 : n < 3
  · have h3i : (n : Int) < 3 := by omega
    clear hbad hb1 hx
    go_enter Tryd.func23, Tryd.ntmps23
    go_wp2
    refine bodyPost_ret (v := .tuple #[.agg #[.int .i64 0, .int .i64 0, .slice none 0 0], .slice none 0 0, .bool false]) (by simp [results, Tryd.results23, go_sem]) rfl ?_
    exact ⟨rfl, HB1.out⟩
  · obtain ⟨b, o, rfl, hb, hc2, p2, q2⟩ := (h.below' hb1 hB).at_ (show 2 < n by omega)
    have hbw : b < w.heap.size := by omega
    have hbd : (n : Int) - 3 < xs.getD 2 0 := by omega
    generalize xs.getD 2 0 = x2 at *
    have h3i : ¬ (n : Int) < 3 := by omega
    have h3j : ¬ n < 3 := h3
    have w0 : IntKind.i64.wrap x2 = x2 := IntWalk.i64_in _ (by omega)
    have w1 : IntKind.i64.wrap ((n : Int) - 3) = (n : Int) - 3 := IntWalk.i64_in _ (by omega)
    clear hbad hb1 hx
    go_enter Tryd.func23, Tryd.ntmps23
    go_wp2
    refine bodyPost_ret (v := .tuple #[.agg #[.int .i64 0, .int .i64 0, .slice none 0 0], .slice none 0 0, .bool false]) (by simp [results, Tryd.results23, go_sem]) rfl ?_
    exact ⟨rfl, HB1.out⟩
set_option maxHeartbeats 4000000 in
set_option maxRecDepth 100000 in
theorem page_good (A : Option Addr) (n c : Nat) (xs : List Int) (w : World) (B : Nat) (h : RB w B A n xs) (hB : B ≤ w.heap.size) (hn : n ≤ 512) (hnc : n ≤ c) (hcm : c ≤ 9223372036854775807) (hgood : ¬ (xs.length < 3 ∨ (xs.length : Int) - 3 < xs.getD 2 0)) :
    Calls Tryd.prog 23 #[.slice A n c] w (PgGood B (xs.getD 0 0, xs.getD 1 0, (xs.drop 3).take (xs.getD 2 0).toNat) (xs.drop (3 + (xs.getD 2 0).toNat)) w) := by
  have hl := h.len
  rw [hl] at hgood
  have hn3 : 3 ≤ n := by omega
  obtain ⟨k, hk, hk2⟩ := at_nat h (show 2 < n by omega)
  rw [hk] at hgood ⊢
  have hkn : 3 + k ≤ n := by omega
  rw [Int.toNat_natCast]
  obtain ⟨wS, hwS⟩ : ∃ wS, wS = w.alloc (.cells #[.int .i64 0, .int .i64 0, .slice none 0 0] 41) := ⟨_, rfl⟩
  have hb1 : Below w.heap.size w wS := by rw [hwS]; exact (Below.refl _ _).alloc (Nat.le_refl _) _
  have hx : Blk wS w.heap.size #[.int .i64 0, .int .i64 0, .slice none 0 0] 41 := by rw [hwS]; exact Blk.new _ _ _
  have hsw := hx.lt
  have hrs := h.below' hb1 hB
  obtain ⟨b, o, rfl, hb, hc0, p0, q0⟩ := hrs.at_ (show 0 < n by omega)
  obtain ⟨b', o', e1, _, hc1, p1, q1⟩ := hrs.at_ (show 1 < n by omega)
  injection e1 with e1
  injection e1 with e1 e1'
  subst e1; subst e1'
  obtain ⟨b', o', e1, _, hc2, _, _⟩ := hrs.at_ (show 2 < n by omega)
  injection e1 with e1
  injection e1 with e1 e1'
  subst e1; subst e1'
  rw [hk] at hc2
  rw [Nat.add_zero] at hc0
  obtain ⟨A3, hA3, hsl⟩ := slice_two (some ⟨b, o, none⟩) n c 3 k ((3 : Int) + k) (by push_cast; rfl) 3 rfl (by omega) hnc hcm
  obtain ⟨A4, hA4, hsc⟩ := slice_cut (some ⟨b, o, none⟩) n c (3 + k) hkn hnc hcm
  have hr3 : RB wS B A3 k ((xs.drop 3).take k) := rb_take (rb_cut hrs (show 3 ≤ n by omega) hnc A3 hA3) (show k ≤ n - 3 by omega)
  have hr4 : RB wS B A4 (n - (3 + k)) (xs.drop (3 + k)) := rb_cut hrs hkn hnc A4 hA4
  have hT : ((xs.drop 3).take k).length = k := hr3.len
  generalize (xs.drop 3).take k = T at *
  generalize xs.drop (3 + k) = R at *
  generalize xs.getD 0 0 = x0 at *
  generalize xs.getD 1 0 = x1 at *
  have HSL := Lib.hid hsl
  have HSC : Hid (∀ w, (Instr.slice 26 (.slice (some ⟨b, o, none⟩) n c) (some (.int .i64 ((3 : Int) + k))) none none).run Tryd.prog w = .ok (.slice A4 (n - (3 + k)) (c - (3 + k))) w) := Lib.hid (fun w => by have := hsc w; push_cast at this; exact this)
  have HR3 := Lib.hid hr3
  have HR4 := Lib.hid hr4
  have HB1 := Lib.hid hb1
  have HX := Lib.hid hx
  have HW := Lib.hid hwS
  have h3i : ¬ (n : Int) < 3 := by omega
  have h3j : ¬ n < 3 := by omega
  have hbd : ¬ (n : Int) - 3 < k := by omega
  have w0 : IntKind.i64.wrap x0 = x0 := IntWalk.i64_in _ (by omega)
  have w1' : IntKind.i64.wrap x1 = x1 := IntWalk.i64_in _ (by omega)
  have w2 : IntKind.i64.wrap (k : Int) = k := IntWalk.i64_in _ (by omega)
  have w3 : IntKind.i64.wrap ((n : Int) - 3) = (n : Int) - 3 := IntWalk.i64_in _ (by omega)
  have w4 : IntKind.i64.wrap ((3 : Int) + k) = (3 : Int) + k := IntWalk.i64_in _ (by omega)
  have hbS : b < w.heap.size := by omega
  obtain ⟨gr, hgr⟩ : ∃ g, w.heap.size = g := ⟨_, rfl⟩
  have HGR := Lib.hid hgr
  rw [hgr] at HX HB1 hsw hbS hB
  have hd0 := hc0
  have hd1 := hc1
  have hd2 := hc2
  rw [hwS] at hc0 hc1 hc2
  clear hsl hsc hr3 hr4 hb1 hx hwS h hrs hgood hk hA3 hA4 hl
  go_enter Tryd.func23, Tryd.ntmps23
  go_wp2_with fail
  rw [← HW.out]
  clear hc0 hc1 hc2 HW hgr
  have hcal := cloneB_v A3 k (c - 3) T wS.drew B HR3.out.drew (by show B ≤ wS.heap.size; omega) (by omega)
  have hxc := HX.out.cell
  have hxl := HX.out.lt
  have KEY := Lib.hid (fun (w8 : World) (A8 : Option Addr) (c8 : Nat) (hr8 : Row w8 wS.drew.heap.size 5 1 (.slice A8 k c8) k (T.map (Value.int .u8))) (hb8 : Below wS.drew.heap.size wS.drew w8) =>
    (show w8.cell? ⟨b, o, none⟩ = some (.int .u8 x0) ∧ w8.cell? ⟨b, o + 1, none⟩ = some (.int .u8 x1) ∧ Blk w8 gr #[.int .i64 0, .int .i64 0, .slice none 0 0] 41 ∧
      PgGood B (x0, x1, T) R w (.returned (.tuple #[.agg #[.int .i64 x0, .int .i64 x1, .slice A8 k c8], .slice A4 (n - (3 + k)) (c - (3 + k)), .bool true])) (((w8.setCell ⟨gr, 0, none⟩ (.int .i64 x0)).setCell ⟨gr, 1, none⟩ (.int .i64 x1)).setCell ⟨gr, 2, none⟩ (.slice A8 k c8)) from by
      have h1 : Below wS.heap.size wS w8 := ((Below.refl wS.heap.size wS).drew).trans hb8
      have hbl := HX.out.fr (Fr.of_grow h1) (fun h => h)
      have hr8' : Row w8 gr 5 1 (.slice A8 k c8) k (T.map (Value.int .u8)) := hr8.base_le (show gr ≤ wS.heap.size by omega)
      have hne : (Value.slice A8 k c8).ownBlock ≠ some gr := fun e => bp_row_blk hr8 hbl (by decide) e
      have hs := h1.size
      refine ⟨(h1.cell (p := ⟨b, o, none⟩) (show b < wS.heap.size by omega)).trans hd0, (h1.cell (p := ⟨b, o + 1, none⟩) (show b < wS.heap.size by omega)).trans hd1, hbl, A8, k, c8, A4, _, _, rfl, hT, ?_, ?_, by omega, by omega, ?_⟩
      · rw [HGR.out]; exact ((hr8'.setCell (p := ⟨gr, 0, none⟩) hne _).setCell (p := ⟨gr, 1, none⟩) hne _).setCell (p := ⟨gr, 2, none⟩) hne _
      · exact (HR4.out.below' h1 (by omega)).below' ((((Below.refl B w8).setCell (p := ⟨gr, 0, none⟩) hB _).setCell (p := ⟨gr, 1, none⟩) hB _).setCell (p := ⟨gr, 2, none⟩) hB _) (Nat.le_refl _)
      · rw [HGR.out]; exact (((HB1.out.trans (h1.mono (by omega))).setCell (p := ⟨gr, 0, none⟩) (Nat.le_refl _) _).setCell (p := ⟨gr, 1, none⟩) (Nat.le_refl _) _).setCell (p := ⟨gr, 2, none⟩) (Nat.le_refl _) _))
  have hp0 : 0 < n := by omega
  have hp1 : 1 < n := by omega
  have hp1i : (1 : Int) < n := by omega
  have hsl := HSL.out
  have hsc := HSC.out
  go_region_law (first | (refine step_call_go rfl 18 #[.tmp 35] #[26] rfl #[.slice A3 k (c - 3)] (by simp [Act.eval, Act.put]) (run18 _ _) (BsV T wS.drew) hcal ?_; rintro v8 w8 ⟨A8, n8, c8, rfl, hl8, hr8, hb8⟩; obtain rfl : k = n8 := hT.symm.trans hl8; obtain ⟨q0', q1', hbl, hfin⟩ := KEY.out w8 A8 c8 hr8 hb8; have HFIN := Lib.hid hfin; have hcl := hbl.cell; have hll := hbl.lt; have hfl := hbl.free) | fail)
  all_goals
    clear hfin hr8 hb8 hcal KEY hsl hsc
    go_wp2
    refine bodyPost_ret (v := .tuple #[.agg #[.int .i64 x0, .int .i64 x1, .slice A8 k c8], .slice A4 (n - (3 + k)) (c - (3 + k)), .bool true]) (by simp [results, Tryd.results23, go_sem, hcl, hll]) rfl ?_
    exact HFIN.out
end Go.Proofs.YtdgjcjhdclihpaaDoor
