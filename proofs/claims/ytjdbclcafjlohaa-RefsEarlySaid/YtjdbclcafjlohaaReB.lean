/- Contract of ringref4.RefEarly. -/
import Derived.Test.YtjdbclcafjlohaaReA
namespace Go.Proofs.Ytjdbclcafjlohaa
open Go.RowKit
set_option maxHeartbeats 400000
set_option linter.unusedVariables false
set_option linter.unusedSimpArgs false
def noLater (rs : List Rc) (o : Int) (i j : Nat) : Prop := ∀ m, j ≤ m → m < i → ¬ isLater rs o m
theorem noLater.step {rs : List Rc} {o : Int} {i j : Nat} (h : noLater rs o i (j + 1)) (hn : ¬ isLater rs o j) : noLater rs o i j := fun m h1 h2 => by
  rcases Nat.lt_or_ge j m with h3 | h3
  · exact h m h3 h2
  · obtain rfl : m = j := by omega
    exact hn
theorem tk_drewN' {B : Nat} {w w' : World} (h : Below B w w') (n : Nat) : Below B w (w'.drewN n) := ⟨h.os, h.tape, h.output, h.size, h.block⟩
theorem badE_none {rs : List Rc} {i : Nat} (h : noLater rs (rs.getD i .zero).o i 0) : ¬ badE rs i := fun ⟨_, k, hk, _⟩ => h k (Nat.zero_le _) hk.1 hk.2.1
theorem badE_no {rs : List Rc} {i k : Nat} (hk : lastLater rs (rs.getD i .zero).o i k) (h : noneYet rs k i 17) : ¬ badE rs i := fun ⟨_, k', hk', t, h1, h2, h3⟩ => by
  obtain rfl := hk.unique hk'
  exact h t h1 (by omega) h3
theorem badE_yes {rs : List Rc} {i k t : Nat} (h9 : (rs.getD i .zero).k = 9) (hk : lastLater rs (rs.getD i .zero).o i k) (h1 : 1 ≤ t) (h2 : t ≤ 16) (h3 : readsAll rs t k i) : badE rs i := ⟨h9, k, hk, t, h1, h2, h3⟩
set_option maxHeartbeats 8000000 in
set_option maxRecDepth 100000 in
theorem refEarly_any (A : Option Addr) (n c : Nat) (rs : List Rc) (w : World) (B : Nat) (h : RR w B A n rs) (hB : B ≤ w.heap.size) (hnc : n ≤ c) (hn : n ≤ 9223372036854775807) :
    Calls Try.prog 25 #[.slice A n c] w (FirstPost (badE rs) (traceErr rs) n w) := by
  have HL := Lib.hid h.2
  by_cases ht : traceErr rs = 0
  · obtain ⟨hsm, hgd⟩ := traceErr_good ht
    have hsm' : n ≤ 400 := by rw [HL.out] at hsm; exact hsm
    have HT := Lib.hid ht
    clear hsm hgd
    go_enter Try.func25, Try.ntmps25
    go_wp2_with (go_at_call 37; refine (fault_any A n c rs _ B h hB hn).mono ?_; rintro e w1 ⟨rfl, hb1⟩; rw [ht])
    clear ht
    go_loopw [18] (fun i wr => ∃ k : Nat, k ≤ n ∧ i = .int .i64 k ∧ Hid (∀ j, j < k → ¬ badE rs j) ∧ Below w.heap.size w wr) (fun i _ => n - (intOf i).toNat)
    case atStart => exact ⟨0, by omega, rfl, Lib.hid (fun j hj => by omega), hb1⟩
    case round =>
      obtain ⟨i, hk, rfl, hok, hbw⟩ := hrel
      by_cases hlt : i < n
      · obtain ⟨b, of, rfl, hb, c0, c1, c2, c3⟩ := (h.below' hbw hB).at_ hlt
        have hlen : i < rs.length := by rw [HL.out]; exact hlt
        have hOk := Lib.hid (fun x : ¬ badE rs i => ok_next (p := fun j => ¬ badE rs j) hok.out x)
        have hBad := Lib.hid (FirstIs.at_ (n := n) HT.out hlt hok.out)
        have hNine := Lib.hid (show (rs.getD i .zero).k ≠ 9 → ¬ badE rs i from fun h hx => h hx.1)
        have hNo := Lib.hid (badE_none (rs := rs) (i := i))
        have hNo2 := Lib.hid (fun k => badE_no (rs := rs) (i := i) (k := k))
        have hYes := Lib.hid (fun k t => badE_yes (rs := rs) (i := i) (k := k) (t := t))
        have hbw' : ∀ X, Below w.heap.size w (wr.alloc X) := fun X => hbw.alloc hbw.size X
        have hilt : (i : Int) < n := by omega
        generalize rs.getD i .zero = r at *
        by_cases k9 : r.k = 9
        · have K9 := Lib.hid k9
          obtain ⟨W, hW⟩ : ∃ W, W = wr := ⟨_, rfl⟩
          subst hW
          have hbx0 : Blk (W.alloc (.cells #[.int .i64 9, .int .i64 r.c, .int .i64 r.t, .int .i64 r.o] 24)) W.heap.size #[.int .i64 9, .int .i64 r.c, .int .i64 r.t, .int .i64 r.o] 24 := Blk.new _ _ _
          have hb0 := hbw' (.cells #[.int .i64 9, .int .i64 r.c, .int .i64 r.t, .int .i64 r.o] 24)
          go_wp2_with fail
          go_loopw [7] (fun s wr => ∃ j : Nat, j ≤ i ∧ s = .int .i64 ((j : Int) - 1) ∧ Hid (noLater rs r.o i j) ∧ Blk wr W.heap.size #[.int .i64 9, .int .i64 r.c, .int .i64 r.t, .int .i64 r.o] 24 ∧ Below w.heap.size w wr) (fun s _ => (intOf s + 1).toNat)
          case atStart => exact ⟨i, Nat.le_refl _, by go_num, Lib.hid (fun m h1 h2 => by omega), hbx0, hb0⟩
          case round =>
            obtain ⟨j, hj, rfl, hnl, hbx, hbl⟩ := hrel
            clear hbx0 hb0 c0 c1 c2 c3 hbw'
            have hcb := hbx.cell
            have hlb := hbx.lt
            rcases j with _ | j
            · have hfin := Lib.hid (hOk.out (hNo.out hnl.out))
              simp only [Int.natCast_zero, Int.zero_sub]
              go_wp2
              refine wp_region_quiet_lit (by kernel_rfl) (by kernel_rfl) ?_
              repeat (go_big_quiet_step (fail))
              refine wpQuiet_nil ?_
              intro _ hw'
              obtain ⟨nq, rfl⟩ := hw'
              go_wp2
              go_roundw
              case rel => exact ⟨i + 1, by omega, by go_num, hfin, tk_drewN' hbl _⟩
              case measure => simp [intOf]; omega
            · have ej : ((j + 1 : Nat) : Int) - 1 = (j : Int) := by omega
              rw [ej]
              clear ej
              obtain ⟨b', of', e', hb', d0, d1, d2, d3⟩ := (h.below' hbl hB).at_ (show j < n by omega)
              injection e' with e1
              injection e1 with e1 e2
              subst e1; subst e2
              have hLt := Lib.hid (show isLater rs r.o j ↔ ((rs.getD j .zero).k = 8 ∧ (rs.getD j .zero).o = r.o) from Iff.rfl)
              have hSt := Lib.hid (fun x => hnl.out.step (j := j) x)
              have hjn : (j : Int) < n := by omega
              have hj0 : (0 : Int) ≤ j := by omega
              generalize rs.getD j .zero = x at *
              by_cases k8 : x.k = 8
              · have k8' : (x.k != 8) = false := by simpa using k8
                by_cases ho : x.o = r.o
                · have ho' : (x.o != r.o) = false := by simpa using ho
                  have hLast : Hid (lastLater rs r.o i j) := Lib.hid ⟨by omega, hLt.out.2 ⟨k8, ho⟩, fun m h1 h2 => hnl.out m (by omega) h2⟩
                  clear ho
                  go_wp2
                  refine wp_region_quiet_lit (by kernel_rfl) (by kernel_rfl) ?_
                  repeat (go_big_quiet_step (fail))
                  refine wpQuiet_nil ?_
                  intro _ hw'
                  obtain ⟨nq, rfl⟩ := hw'
                  go_wp2_with fail
                  have hbl2 := tk_drewN' hbl nq
                  clear hcb hlb hbx d0 d1 d2 d3 hbl hSt hLt hnl k8 k8' ho'
                  generalize World.drewN wr nq = W2 at *
                  go_loopw [8] (fun s wr => ∃ t : Nat, 1 ≤ t ∧ t ≤ 17 ∧ s = .int .i64 t ∧ Hid (noneYet rs j i t) ∧ Below w.heap.size w wr) (fun s _ => (17 - intOf s).toNat)
                  case atStart => exact ⟨1, by omega, by omega, rfl, Lib.hid (fun t' h1 h2 => by omega), hbl2⟩
                  case round =>
                    obtain ⟨t, ht1, ht2, rfl, hny, hbl⟩ := hrel
                    clear hbl2
                    by_cases ht : t ≤ 16
                    · have ht' : (t : Int) ≤ 16 := by omega
                      have hr := h.below' hbl hB
                      have hBr : B ≤ wr.heap.size := Nat.le_trans hB hbl.size
                      have hjc : (j : Int) ≤ c := by omega
                      have hjc' : j ≤ c := by omega
                      go_wp2_with fail
                      refine (depth_any (some ⟨b, of, none⟩) j c (rs.take j) (t : Int) _ B (hr.head (show j ≤ n by omega)) hBr (by omega)).mono ?_
                      rintro e w4 ⟨rfl, hb4⟩
                      have hbl4 := hbl.trans (hb4.mono hbl.size)
                      have hIff : Hid (decide (0 < dp (rs.take j) (t : Int)) = true ↔ readsAll rs t j (j + 1)) := Lib.hid (by rw [readsAll_first]; simp)
                      clear hbl hr hBr hb4
                      generalize dp (rs.take j) (t : Int) = z at *
                      go_wp2_with fail
                      generalize decide (0 < z) = bz at *
                      go_loopw [9, 10] (fun s9 s10 wr => ∃ (m : Nat) (q : Bool), j + 1 ≤ m ∧ m ≤ i ∧ s10 = .int .i64 m ∧ s9 = .bool q ∧ Hid (q = true ↔ readsAll rs t j m) ∧ Below w.heap.size w wr) (fun _ s10 _ => i - (intOf s10).toNat)
                      case atStart => exact ⟨j + 1, bz, by omega, by omega, by go_num, rfl, hIff, hbl4⟩
                      case round =>
                        obtain ⟨m, q, hm1, hm2, rfl, rfl, hq, hbl⟩ := hrel
                        clear hbl4 hIff
                        by_cases hmi : m < i
                        · have hmi' : (m : Int) < i := by omega
                          cases q with
                          | true =>
                            have hr := h.below' hbl hB
                            have hBr : B ≤ wr.heap.size := Nat.le_trans hB hbl.size
                            have hmc : (m : Int) + 1 ≤ c := by omega
                            have hmc' : m + 1 ≤ c := by omega
                            have hm0 : (0 : Int) ≤ (m : Int) + 1 := by omega
                            go_wp2_with fail
                            refine (depth_any (some ⟨b, of, none⟩) (m + 1) c (rs.take (m + 1)) (t : Int) _ B (hr.head (show m + 1 ≤ n by omega)) hBr (by omega)).mono ?_
                            rintro e w5 ⟨rfl, hb5⟩
                            have hbl5 := hbl.trans (hb5.mono hbl.size)
                            have hI2 : Hid (decide (0 < dp (rs.take (m + 1)) (t : Int)) = true ↔ readsAll rs t j (m + 1)) := Lib.hid (by rw [readsAll_snoc (by omega)]; have := hq.out.1 (by simp); simp [this])
                            clear hbl hr hBr hb5
                            generalize dp (rs.take (m + 1)) (t : Int) = z2 at *
                            go_wp2
                            go_roundw
                            case rel => exact ⟨m + 1, decide (0 < z2), by omega, by omega, by go_num, rfl, hI2, hbl5⟩
                            case measure => simp [intOf]; omega
                          | false =>
                            have hI2 : Hid (false = true ↔ readsAll rs t j (m + 1)) := Lib.hid (by rw [readsAll_snoc (by omega)]; have := hq.out; simp at this ⊢; intro h; exact absurd h this)
                            go_wp2
                            go_roundw
                            case rel => exact ⟨m + 1, false, by omega, by omega, by go_num, rfl, hI2, hbl⟩
                            case measure => simp [intOf]; omega
                        · obtain rfl : m = i := by omega
                          cases q with
                          | true =>
                            have hfin := Lib.hid (hBad.out (hYes.out j t K9.out hLast.out ht1 ht (hq.out.1 (by simp))))
                            go_wp2
                            go_ret2
                            exact ⟨_, _, rfl, hfin.out, hbl⟩
                          | false =>
                            have hny2 : Hid (noneYet rs j m (t + 1)) := Lib.hid (hny.out.next (fun hx => by have := hq.out.2 hx; cases this))
                            go_wp2
                            go_roundw
                            case rel => exact ⟨t + 1, by omega, by omega, by go_num, hny2, hbl⟩
                            case measure => simp [intOf]; omega
                    · obtain rfl : t = 17 := by omega
                      have hfin := Lib.hid (hOk.out (hNo2.out j hLast.out hny.out))
                      go_wp2
                      go_roundw
                      case rel => exact ⟨i + 1, by omega, by go_num, hfin, hbl⟩
                      case measure => simp [intOf]; omega
                · have ho' : (x.o != r.o) = true := by simpa using ho
                  have hS2 := Lib.hid (hSt.out (fun hx => ho (hLt.out.1 hx).2))
                  clear ho
                  go_wp2
                  refine wp_region_quiet_lit (by kernel_rfl) (by kernel_rfl) ?_
                  repeat (go_big_quiet_step (fail))
                  refine wpQuiet_nil ?_
                  intro _ hw'
                  obtain ⟨nq, rfl⟩ := hw'
                  go_wp2
                  go_roundw
                  case rel => exact ⟨j, by omega, by go_num, hS2, hbx.drewN _, tk_drewN' hbl _⟩
                  case measure => simp [intOf] <;> try omega
              · have k8' : (x.k != 8) = true := by simpa using k8
                have hS2 := Lib.hid (hSt.out (fun hx => k8 (hLt.out.1 hx).1))
                go_wp2
                refine wp_region_quiet_lit (by kernel_rfl) (by kernel_rfl) ?_
                repeat (go_big_quiet_step (fail))
                refine wpQuiet_nil ?_
                intro _ hw'
                obtain ⟨nq, rfl⟩ := hw'
                go_wp2
                go_roundw
                case rel => exact ⟨j, by omega, by go_num, hS2, hbx.drewN _, tk_drewN' hbl _⟩
                case measure => simp [intOf] <;> try omega
        · have hfin := Lib.hid (hOk.out (hNine.out k9))
          have k9' : (r.k != 9) = true := by simpa using k9
          go_wp2
          go_roundw
          case rel => exact ⟨i + 1, by omega, by go_num, hfin, hbw' _⟩
          case measure => simp [intOf]; omega
      · obtain rfl : i = n := by omega
        go_wp2
        go_ret2
        exact ⟨_, _, rfl, .inr (.inr ⟨HT.out, hok.out, rfl, rfl⟩), hbw⟩
  · have ht' : (traceErr rs != 0) = true := by simpa using ht
    go_enter Try.func25, Try.ntmps25
    go_wp2_with (go_at_call 37; refine (fault_any A n c rs _ B h hB hn).mono ?_; rintro e w1 ⟨rfl, hb1⟩)
    go_ret2
    exact ⟨_, _, rfl, .inl ⟨ht, rfl, rfl⟩, hb1⟩
end Go.Proofs.Ytjdbclcafjlohaa
