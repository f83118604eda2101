/- Contract of load.Check. -/
import Derived.Test.YtdgjcjhdclihpaaDoorLbA
namespace Go.Proofs.YtdgjcjhdclihpaaDoor
open Go.RowKit
set_option maxHeartbeats 400000
set_option linter.unusedVariables false
set_option linter.unusedSimpArgs false
set_option maxHeartbeats 4000000 in
set_option maxRecDepth 100000 in
theorem check_any (e : Int) (A : Option Addr) (n c : Nat) (gs : List Pg) (w : World) (B : Nat) (h : RP w B A n gs) (hB : B ≤ w.heap.size) (he : 0 ≤ e ∧ e < 4294967296) (hn : n ≤ 9223372036854775807) :
    Calls Tryd.prog 7 #[.agg #[.int .u32 e, .slice A n c]] w (ErrPost e gs w) := by
  have HL := Lib.hid h.2.1
  have hB0 : Below w.heap.size w (w.alloc (.cells #[.int .u32 e, .slice A n c] 25)) := (Below.refl _ _).alloc (Nat.le_refl _) _
  by_cases hbig : 64 < n
  · go_enter Tryd.func7, Tryd.ntmps7
    go_wp2
    go_ret
    exact ⟨2, rfl, .inl ⟨by rw [HL.out]; exact hbig, rfl⟩, hB0⟩
  · have hbig' : n ≤ 64 := by omega
    go_enter Tryd.func7, Tryd.ntmps7
    go_wp2
    go_loopw [3, 13] (fun s i wr => ∃ k : Nat, k ≤ n ∧ i = .int .i64 k ∧ s = .bool (stp e gs k) ∧ Hid (∀ j, j < k → okPg gs j) ∧ Below (w.heap.size + 1) (w.alloc (.cells #[.int .u32 e, .slice A n c] 25)) wr) (fun _ i _ => n - (intOf i).toNat)
    case atStart => exact ⟨0, by omega, rfl, rfl, Lib.hid (fun j hj => by omega), Below.refl _ _⟩
    case round =>
      obtain ⟨k, hk, rfl, rfl, hok, hbw⟩ := hrel
      obtain ⟨x0, x1, xl⟩ := box2 hbw
      have hw0 : Below w.heap.size w wr := hB0.trans (hbw.mono (by omega))
      have hew : IntKind.i64.wrap e = e := IntWalk.i64_in _ (by omega)
      have hdiv : IntKind.i64.wrap (e.tdiv 16) = e / 16 := IntWalk.i64_quo e 16 (by omega)
      by_cases hlt : k < n
      · have hr := h.below' hw0 hB
        have hlen : k < gs.length := by rw [HL.out]; exact hlt
        have hfn := hr.fine_ hlt
        have hge := lastP_ge hok.out
        have hS := Lib.hid (stp_succ e gs k hlen)
        have hNo : Hid (¬ okPg gs k → ∀ w', Below w.heap.size w w' → ErrPost e gs w (.returned (.int .i64 3)) w') := Lib.hid (fun hx w' hb => .bad (by rw [HL.out]; exact hbig') hlen hx hb)
        have hOk := Lib.hid (fun x : okPg gs k => ok_next hok.out x)
        unfold okPg at hNo hOk
        obtain ⟨b, o, rfl, hb, c0, c1, c2⟩ := hr.at_ hlt
        have hPr := Lib.hid (fun h0 : 0 < k => hr.prev (i := k - 1) (by omega))
        have hLa := Lib.hid (show lastP gs k = if k = 0 then -1 else (gs.getD (k - 1) .zero).p from rfl)
        generalize gs.getD (k - 1) .zero = g0 at hPr hLa
        generalize lastP gs k = la at *
        generalize gs.getD k .zero = g at *
        generalize stp e gs k = sb at *
        have hbwr : b < wr.heap.size := by have := hw0.size; omega
        obtain ⟨p, r, A', n', c', xs⟩ := g
        dsimp only at c0 c1 c2
        obtain ⟨hf1, hf2, hf3, hf4⟩ := hfn
        dsimp only at hf1 hf2 hf3 hf4
        unfold I64 at hf2 hf3
        have hk0 : (0 : Int) ≤ k := by omega
        have hkn : (k : Int) < n := by omega
        have hbx : ∀ X, Below w.heap.size w (wr.alloc X) := fun X => hw0.alloc hw0.size X
        have hsz := hw0.size
        have hz : wr.heap.size < wr.heap.size + 1 := Nat.lt_succ_self _
        have hz1 : b < wr.heap.size + 1 := by omega
        have hz2 : w.heap.size < wr.heap.size + 1 := by omega
        by_cases hp : p < 0
        · have d1 : decide (p < 0) = true := by simpa using hp
          go_wp2_with fail
          refine wp_region_near (wr.heap.size + 1) (by kernel_rfl) (by kernel_rfl) ?_
          repeat (go_big_quiet_step ((go_at_call 20; exact Calls.near_same (may_is _ _ rfl))))
          refine wpQuiet_nil ?_
          intro w3 hb3
          have hw3 := (hbx _).trans (hb3.mono (Nat.le_succ_of_le hsz))
          go_wp2
          go_ret
          exact hNo.out (fun hx => by have hla := hLa.out; unfold pgOk at hx; dsimp only at hx; split at hla <;> omega) _ hw3
        have d1 : decide (p < 0) = false := by simpa using hp
        by_cases hp6 : 64 ≤ p
        · have d2 : decide (64 ≤ p) = true := by simpa using hp6
          go_wp2_with fail
          refine wp_region_near (wr.heap.size + 1) (by kernel_rfl) (by kernel_rfl) ?_
          repeat (go_big_quiet_step ((go_at_call 20; exact Calls.near_same (may_is _ _ rfl))))
          refine wpQuiet_nil ?_
          intro w3 hb3
          have hw3 := (hbx _).trans (hb3.mono (Nat.le_succ_of_le hsz))
          go_wp2
          go_ret
          exact hNo.out (fun hx => by have hla := hLa.out; unfold pgOk at hx; dsimp only at hx; split at hla <;> omega) _ hw3
        have d2 : decide (64 ≤ p) = false := by simpa using hp6
        by_cases hkz : k = 0
        · have d3 : decide (0 < k) = false := by simp; omega
          have HK := Lib.hid hkz; clear hkz
          by_cases hm : 1 ≤ r ∧ r ≤ 5
          · have dm : decide (1 ≤ r ∧ r ≤ 5) = true := by simpa using hm
            obtain ⟨hm1, hm2⟩ := hm
            by_cases hl : 16 < n'
            · have d5 : decide (16 < n') = true := by simp; omega
              go_wp2_with fail
              refine wp_region_near (wr.heap.size + 1) (by kernel_rfl) (by kernel_rfl) ?_
              repeat (go_big_quiet_step ((go_at_call 20; exact Calls.near_same (may_is _ _ dm))))
              refine wpQuiet_nil ?_
              intro w3 hb3
              have hw3 := (hbx _).trans (hb3.mono (Nat.le_succ_of_le hsz))
              go_wp2
              go_ret
              exact hNo.out (fun hx => by have hkz := HK.out; have hla := hLa.out; unfold pgOk at hx; dsimp only at hx; split at hla <;> omega) _ hw3
            · have d5 : decide (16 < n') = false := by simp; omega
              go_wp2_with fail
              refine wp_region_near (wr.heap.size + 1) (by kernel_rfl) (by kernel_rfl) ?_
              repeat (go_big_quiet_step ((go_at_call 20; exact Calls.near_same (may_is _ _ dm))))
              refine wpQuiet_nil ?_
              intro w3 hb3
              have hw3 := (hbx _).trans (hb3.mono (Nat.le_succ_of_le hsz))
              obtain ⟨q0, q1, q2, ql⟩ := box3 hb3
              have x0' := (hb3.cell (p := ⟨w.heap.size, 0, none⟩) hz2).trans ((World.cell?_alloc_lt wr _ ⟨w.heap.size, 0, none⟩ xl).trans x0)
              have x1' := (hb3.cell (p := ⟨w.heap.size, 1, none⟩) hz2).trans ((World.cell?_alloc_lt wr _ ⟨w.heap.size, 1, none⟩ xl).trans x1)
              have hl3 : w.heap.size < w3.heap.size := by omega
              have hbw3 := (hbw.alloc xl _).trans (hb3.mono (Nat.le_succ_of_le xl))
              have hGood := Lib.hid (hOk.out (by have hkz := HK.out; have hla := hLa.out; unfold pgOk; dsimp only; split at hla <;> omega))
              clear c0 c1 c2 x0 x1 hb3 hPr hNo hOk hbx
              cases sb with
              | true =>
                go_wp2
                go_roundw
                case rel => exact ⟨k + 1, by omega, by go_num, by rw [hS.out]; simp [goesP], Lib.hid hGood.out, hbw3⟩
                case measure => simp [intOf]; omega
              | false =>
                by_cases hq : e / 16 = p
                · have hand := and4 hm1 hm2
                  have hq' : (e / 16 == p) = true := by simpa using hq
                  by_cases h4 : 4 ≤ r
                  · rw [if_pos h4] at hand
                    go_wp2
                    go_roundw
                    case rel => exact ⟨k + 1, by omega, by go_num, by rw [hS.out]; simp [goesP]; omega, Lib.hid hGood.out, hbw3⟩
                    case measure => simp [intOf]; omega
                  · rw [if_neg h4] at hand
                    go_wp2
                    go_roundw
                    case rel => exact ⟨k + 1, by omega, by go_num, by rw [hS.out]; simp [goesP]; omega, Lib.hid hGood.out, hbw3⟩
                    case measure => simp [intOf]; omega
                · have hq' : (e / 16 == p) = false := by simpa using hq
                  go_wp2
                  go_roundw
                  case rel => exact ⟨k + 1, by omega, by go_num, by rw [hS.out]; simp [goesP]; omega, Lib.hid hGood.out, hbw3⟩
                  case measure => simp [intOf]; omega
          · have dm : decide (1 ≤ r ∧ r ≤ 5) = false := by simpa using hm
            go_wp2_with fail
            refine wp_region_near (wr.heap.size + 1) (by kernel_rfl) (by kernel_rfl) ?_
            repeat (go_big_quiet_step ((go_at_call 20; exact Calls.near_same (may_is _ _ dm))))
            refine wpQuiet_nil ?_
            intro w3 hb3
            have hw3 := (hbx _).trans (hb3.mono (Nat.le_succ_of_le hsz))
            go_wp2
            go_ret
            exact hNo.out (fun hx => by have hkz := HK.out; have hla := hLa.out; unfold pgOk at hx; dsimp only at hx; split at hla <;> omega) _ hw3
        have d3 : decide (0 < k) = true := by simp; omega
        have hk1 : IntKind.i64.wrap ((k : Int) - 1) = (k : Int) - 1 := IntWalk.i64_in _ (by omega)
        have hk2 : (0 : Int) ≤ (k : Int) - 1 := by omega
        have hk3 : ((k : Int) - 1).toNat = k - 1 := by omega
        have hk4 : (k : Int) - 1 < n := by omega
        have hk5 : k - 1 < n := by omega
        have hPr' := hPr.out (by omega)
        obtain ⟨p0, r0, A0, n0, cc0, xs0⟩ := g0
        dsimp only at hPr' hLa
        by_cases hpp : p ≤ p0
        · have d4 : decide (p ≤ p0) = true := by simpa using hpp
          go_wp2_with fail
          refine wp_region_near (wr.heap.size + 1) (by kernel_rfl) (by kernel_rfl) ?_
          repeat (go_big_quiet_step ((go_at_call 20; exact Calls.near_same (may_is _ _ rfl))))
          refine wpQuiet_nil ?_
          intro w3 hb3
          have hw3 := (hbx _).trans (hb3.mono (Nat.le_succ_of_le hsz))
          go_wp2
          go_ret
          exact hNo.out (fun hx => by have hla := hLa.out; unfold pgOk at hx; dsimp only at hx; split at hla <;> omega) _ hw3
        have d4 : decide (p ≤ p0) = false := by simpa using hpp
        by_cases hm : 1 ≤ r ∧ r ≤ 5
        · have dm : decide (1 ≤ r ∧ r ≤ 5) = true := by simpa using hm
          obtain ⟨hm1, hm2⟩ := hm
          by_cases hl : 16 < n'
          · have d5 : decide (16 < n') = true := by simp; omega
            go_wp2_with fail
            refine wp_region_near (wr.heap.size + 1) (by kernel_rfl) (by kernel_rfl) ?_
            repeat (go_big_quiet_step ((go_at_call 20; exact Calls.near_same (may_is _ _ dm))))
            refine wpQuiet_nil ?_
            intro w3 hb3
            have hw3 := (hbx _).trans (hb3.mono (Nat.le_succ_of_le hsz))
            go_wp2
            go_ret
            exact hNo.out (fun hx => by have hla := hLa.out; unfold pgOk at hx; dsimp only at hx; split at hla <;> omega) _ hw3
          · have d5 : decide (16 < n') = false := by simp; omega
            go_wp2_with fail
            refine wp_region_near (wr.heap.size + 1) (by kernel_rfl) (by kernel_rfl) ?_
            repeat (go_big_quiet_step ((go_at_call 20; exact Calls.near_same (may_is _ _ dm))))
            refine wpQuiet_nil ?_
            intro w3 hb3
            have hw3 := (hbx _).trans (hb3.mono (Nat.le_succ_of_le hsz))
            obtain ⟨q0, q1, q2, ql⟩ := box3 hb3
            have x0' := (hb3.cell (p := ⟨w.heap.size, 0, none⟩) hz2).trans ((World.cell?_alloc_lt wr _ ⟨w.heap.size, 0, none⟩ xl).trans x0)
            have x1' := (hb3.cell (p := ⟨w.heap.size, 1, none⟩) hz2).trans ((World.cell?_alloc_lt wr _ ⟨w.heap.size, 1, none⟩ xl).trans x1)
            have hl3 : w.heap.size < w3.heap.size := by omega
            have hbw3 := (hbw.alloc xl _).trans (hb3.mono (Nat.le_succ_of_le xl))
            have hGood := Lib.hid (hOk.out (by have hla := hLa.out; unfold pgOk; dsimp only; split at hla <;> omega))
            clear c0 c1 c2 x0 x1 hb3 hPr hNo hOk hbx
            cases sb with
            | true =>
              go_wp2
              go_roundw
              case rel => exact ⟨k + 1, by omega, by go_num, by rw [hS.out]; simp [goesP], Lib.hid hGood.out, hbw3⟩
              case measure => simp [intOf]; omega
            | false =>
              by_cases hq : e / 16 = p
              · have hand := and4 hm1 hm2
                have hq' : (e / 16 == p) = true := by simpa using hq
                by_cases h4 : 4 ≤ r
                · rw [if_pos h4] at hand
                  go_wp2
                  go_roundw
                  case rel => exact ⟨k + 1, by omega, by go_num, by rw [hS.out]; simp [goesP]; omega, Lib.hid hGood.out, hbw3⟩
                  case measure => simp [intOf]; omega
                · rw [if_neg h4] at hand
                  go_wp2
                  go_roundw
                  case rel => exact ⟨k + 1, by omega, by go_num, by rw [hS.out]; simp [goesP]; omega, Lib.hid hGood.out, hbw3⟩
                  case measure => simp [intOf]; omega
              · have hq' : (e / 16 == p) = false := by simpa using hq
                go_wp2
                go_roundw
                case rel => exact ⟨k + 1, by omega, by go_num, by rw [hS.out]; simp [goesP]; omega, Lib.hid hGood.out, hbw3⟩
                case measure => simp [intOf]; omega
        · have dm : decide (1 ≤ r ∧ r ≤ 5) = false := by simpa using hm
          go_wp2_with fail
          refine wp_region_near (wr.heap.size + 1) (by kernel_rfl) (by kernel_rfl) ?_
          repeat (go_big_quiet_step ((go_at_call 20; exact Calls.near_same (may_is _ _ dm))))
          refine wpQuiet_nil ?_
          intro w3 hb3
          have hw3 := (hbx _).trans (hb3.mono (Nat.le_succ_of_le hsz))
          go_wp2
          go_ret
          exact hNo.out (fun hx => by have hla := hLa.out; unfold pgOk at hx; dsimp only at hx; split at hla <;> omega) _ hw3
      · obtain rfl : k = n := by omega
        have hmod : e.tmod 4 = e % 4 := IntWalk.rem_in _ _ he.1
        have hE := Lib.hid (ErrIs.three (e := e) HL.out hbig' hok.out)
        have hG := Lib.hid (ErrIs.zero (e := e) HL.out hbig' hok.out)
        generalize stp e gs k = sb at *
        by_cases h4 : e % 4 = 0
        · have h4' : (e % 4 != 0) = false := by simpa using h4
          cases sb with
          | true =>
            go_wp2
            go_ret
            exact ⟨0, rfl, hG.out (by simpa using h4), hw0⟩
          | false =>
            go_wp2
            go_ret
            exact ⟨3, rfl, hE.out (by simp), hw0⟩
        · have h4' : (e % 4 != 0) = true := by simpa using h4
          go_wp2
          go_ret
          exact ⟨3, rfl, hE.out (by simp [h4]), hw0⟩
end Go.Proofs.YtdgjcjhdclihpaaDoor
