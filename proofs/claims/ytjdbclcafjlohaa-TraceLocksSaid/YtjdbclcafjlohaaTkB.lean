/- Contract of trace.Wrong. -/
import Derived.Test.YtjdbclcafjlohaaTkA
namespace Go.Proofs.Ytjdbclcafjlohaa
open Go.RowKit
set_option maxHeartbeats 400000
set_option linter.unusedVariables false
set_option linter.unusedSimpArgs false
def TkRel (w w1 : World) (rs : List Rc) (k : Nat) (wr : World) : Prop :=
  wr.heap[w1.heap.size]? = some (.cells (rowOf fun o => .int .i64 (ow (rs.take k) o)) 63 (0, 0)) ∧ Below w.heap.size w wr
theorem TkRel.start {w w1 : World} (rs : List Rc) (hb : Below w.heap.size w w1) : TkRel w w1 rs 0 (w1.alloc (.cells (rowOf fun _ => .int .i64 0) 63)) :=
  ⟨row_same (row_new _) fun j => rfl, hb.alloc hb.size _⟩
theorem tk_drewN {B : Nat} {w w' : World} (h : Below B w w') (n : Nat) : Below B w (w'.drewN n) := ⟨h.os, h.tape, h.output, h.size, h.block⟩
theorem ow_other {rs : List Rc} {k : Nat} (h : k < rs.length) {o : Int} (ho : (rs.getD k .zero).o ≠ o) : ow (rs.take (k + 1)) o = ow (rs.take k) o := by
  rw [ow_take rs k h]; unfold ow1; rw [if_neg ho]
theorem ow_at {rs : List Rc} {k : Nat} (h : k < rs.length) : ow (rs.take (k + 1)) (rs.getD k .zero).o = if (rs.getD k .zero).k = 1 then (rs.getD k .zero).t else if (rs.getD k .zero).k = 2 then 0 else ow (rs.take k) (rs.getD k .zero).o := by
  rw [ow_take rs k h]; unfold ow1; rw [if_pos rfl]
set_option maxHeartbeats 4000000 in
set_option maxRecDepth 100000 in
theorem twrong_any (A : Option Addr) (n c : Nat) (rs : List Rc) (w : World) (B : Nat) (h : RR w B A n rs) (hB : B ≤ w.heap.size) (hn : n ≤ 9223372036854775807) :
    Calls Try.prog 28 #[.slice A n c] w (FirstPost (badT rs) (traceErr rs) n w) := by
  have HL := Lib.hid h.2
  by_cases ht : traceErr rs = 0
  · obtain ⟨hsm, hgd⟩ := traceErr_good ht
    have hsm' : n ≤ 400 := by rw [HL.out] at hsm; exact hsm
    have HT := Lib.hid ht
    have HG := Lib.hid hgd
    clear hsm hgd
    go_enter Try.func28, Try.ntmps28
    go_wp2_with (go_at_call 41; refine (tchecked_any A n c rs _ B h hB hn).mono ?_; rintro e w1 ⟨rfl, hb1⟩; rw [ht])
    clear ht
    have hrel0 := TkRel.start rs hb1
    go_loopw [15] (fun i wr => ∃ k : Nat, k ≤ n ∧ i = .int .i64 k ∧ Hid (∀ j, j < k → ¬ badT rs j) ∧ TkRel w w1 rs k wr) (fun i _ => n - (intOf i).toNat)
    case atStart => exact ⟨0, by omega, rfl, Lib.hid (fun j hj => by omega), hrel0⟩
    case round =>
      obtain ⟨k, hk, rfl, hok, ha5, hbw⟩ := hrel
      clear hrel0
      by_cases hlt : k < n
      · obtain ⟨b, of, rfl, hb, c0, c1, c2, c3⟩ := (h.below' hbw hB).at_ hlt
        have hlen : k < rs.length := by rw [HL.out]; exact hlt
        have hOk := Lib.hid (fun x : ¬ badT rs k => ok_next (p := fun j => ¬ badT rs j) hok.out x)
        have hBad := Lib.hid (FirstIs.at_ (n := n) HT.out hlt hok.out)
        have hRg := Lib.hid (fun o => ow_range HG.out o k (Nat.le_of_lt hlen))
        have hOt := Lib.hid (fun o => ow_other hlen (o := o))
        have hAt := Lib.hid (ow_at hlen)
        have he := HG.out k hlen
        unfold badT at hOk hBad
        generalize rs.getD k .zero = r at *
        have hgd := Rc.good he
        clear he
        obtain ⟨i, hi⟩ : ∃ i : Nat, r.o = i := ⟨r.o.toNat, by omega⟩
        have hi64 : i < 64 := by omega
        have hi64' : (i : Int) < 64 := by omega
        obtain ⟨d5, f5, l5⟩ := row_cell ha5 hi64
        rw [hi] at hOk hBad hAt
        have hOt' := Lib.hid (fun (j : Nat) (hj : j ≠ i) => hOt.out j (by omega))
        clear hOt
        have hrg := hRg.out i
        have hb1s := hb1.size
        generalize hS : ow (rs.take k) i = s at *
        have HS := Lib.hid hS
        clear hS
        have HI := Lib.hid hi
        have hlo : w1.heap.size ≠ wr.heap.size := by omega
        by_cases k1 : r.k = 1
        · have hAt2 := Lib.hid (hAt.out.trans (if_pos k1))
          by_cases hs : s = 0
          · have hs' : (s == 0) = true := by simpa using hs
            have hfin := Lib.hid (hOk.out (fun hx => by rcases hx with hx | hx <;> omega))
            clear hs
            go_wp2
            go_roundw
            case rel => exact ⟨k + 1, by omega, by go_num, hfin, row_alloc (row_next ha5 hi64 (fun j hj => by rw [hOt'.out j hj]) (by rw [hAt2.out])) _, (hbw.setCell (by show _ ≤ w1.heap.size + 0; omega) _).alloc (by simpa using hbw.size) _⟩
            case measure => simp [intOf]; omega
          · have hs' : (s == 0) = false := by simpa using hs
            have hfin := Lib.hid (hBad.out (.inl ⟨k1, by omega⟩))
            clear hs
            go_wp2
            refine wp_region_quiet_lit (by kernel_rfl) (by kernel_rfl) ?_
            repeat (go_big_quiet_step (fail))
            refine wpQuiet_nil ?_
            intro _ hw'
            obtain ⟨nq, rfl⟩ := hw'
            go_wp2
            go_ret2
            exact ⟨_, _, rfl, hfin.out, tk_drewN (hbw.alloc (by simpa using hbw.size) _) _⟩
        have hAt2 := Lib.hid (hAt.out.trans (if_neg k1))
        by_cases k2 : r.k = 2
        · have hAt3 := Lib.hid (hAt2.out.trans (if_pos k2))
          by_cases hs : s = r.t
          · have hs' : (s == r.t) = true := by simpa using hs
            have hfin := Lib.hid (hOk.out (fun hx => by rcases hx with hx | hx <;> omega))
            clear hs
            go_wp2
            refine wp_region_quiet_lit (by kernel_rfl) (by kernel_rfl) ?_
            repeat (go_big_quiet_step (fail))
            refine wpQuiet_nil ?_
            intro _ hw'
            obtain ⟨nq, rfl⟩ := hw'
            go_wp2
            go_roundw
            case rel => exact ⟨k + 1, by omega, by go_num, hfin, row_next (show ((World.alloc wr _).drewN nq).heap[_]? = _ from row_alloc ha5 _) hi64 (fun j hj => by rw [hOt'.out j hj]) (by rw [hAt3.out]), tk_drewN (hbw.alloc (by simpa using hbw.size) _) _ |>.setCell (by show _ ≤ w1.heap.size + 0; omega) _⟩
            case measure => simp [intOf]; omega
          · have hs' : (s == r.t) = false := by simpa using hs
            have hfin := Lib.hid (hBad.out (.inr ⟨k2, hs⟩))
            clear hs
            go_wp2
            refine wp_region_quiet_lit (by kernel_rfl) (by kernel_rfl) ?_
            repeat (go_big_quiet_step (fail))
            refine wpQuiet_nil ?_
            intro _ hw'
            obtain ⟨nq, rfl⟩ := hw'
            go_wp2
            go_ret2
            exact ⟨_, _, rfl, hfin.out, tk_drewN (hbw.alloc (by simpa using hbw.size) _) _⟩
        have hAt3 := Lib.hid (hAt2.out.trans (if_neg k2))
        have hfin := Lib.hid (hOk.out (fun hx => by rcases hx with hx | hx <;> omega))
        have k2' : decide (r.k = 2) = false := by simpa using k2
        have k2'' : (r.k == 2) = false := by simpa using k2
        go_wp2
        refine wp_region_quiet_lit (by kernel_rfl) (by kernel_rfl) ?_
        repeat (go_big_quiet_step (fail))
        refine wpQuiet_nil ?_
        intro _ hw'
        obtain ⟨nq, rfl⟩ := hw'
        go_wp2
        go_roundw
        case rel => exact ⟨k + 1, by omega, by go_num, hfin, row_same (show ((World.alloc wr _).drewN nq).heap[_]? = _ from row_alloc ha5 _) (fun j => by by_cases hj : j = i; (subst hj; rw [hAt3.out, HS.out]); rw [hOt'.out j hj]), tk_drewN (hbw.alloc (by simpa using hbw.size) _) _⟩
        case measure => simp [intOf]; omega
      · obtain rfl : k = n := by omega
        go_wp2
        go_ret2
        exact ⟨_, _, rfl, .inr (.inr ⟨HT.out, hok.out, rfl, rfl⟩), hbw⟩
  · have ht' : (traceErr rs != 0) = true := by simpa using ht
    go_enter Try.func28, Try.ntmps28
    go_wp2_with (go_at_call 41; refine (tchecked_any A n c rs _ B h hB hn).mono ?_; rintro e w1 ⟨rfl, hb1⟩)
    go_ret2
    exact ⟨_, _, rfl, .inl ⟨ht, rfl, rfl⟩, hb1⟩
end Go.Proofs.Ytjdbclcafjlohaa
