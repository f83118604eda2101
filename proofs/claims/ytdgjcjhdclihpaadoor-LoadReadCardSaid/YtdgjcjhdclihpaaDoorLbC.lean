/- Contract of ringref4.LoadFault. -/
import Derived.Test.YtdgjcjhdclihpaaDoorLbA
namespace Go.Proofs.YtdgjcjhdclihpaaDoor
open Go.RowKit
set_option maxHeartbeats 400000
set_option linter.unusedVariables false
set_option linter.unusedSimpArgs false
set_option maxHeartbeats 4000000 in
set_option maxRecDepth 100000 in
theorem loadFault_any (e : Int) (A : Option Addr) (n c : Nat) (gs : List Pg) (w : World) (B : Nat) (h : RP w B A n gs) (hB : B ≤ w.heap.size) (he : 0 ≤ e ∧ e < 4294967296) (hn : n ≤ 9223372036854775807) :
    Calls Tryd.prog 8 #[.agg #[.int .u32 e, .slice A n c]] w (ErrPost e gs w) := by
  have HL := Lib.hid h.2.1
  have hB0 : Below w.heap.size w (w.alloc (.cells #[.int .u32 e, .slice A n c] 25)) := (Below.refl _ _).alloc (Nat.le_refl _) _
  by_cases hbig : 64 < n
  · go_enter Tryd.func8, Tryd.ntmps8
    go_wp2
    go_ret
    exact ⟨2, rfl, .inl ⟨by rw [HL.out]; exact hbig, rfl⟩, hB0⟩
  · have hbig' : n ≤ 64 := by omega
    go_enter Tryd.func8, Tryd.ntmps8
    go_wp2
    go_loopw [3, 4, 14] (fun l s i wr => ∃ k : Nat, k ≤ n ∧ i = .int .i64 k ∧ s = .bool (stp e gs k) ∧ l = .int .i64 (lastP gs k) ∧ Hid (∀ j, j < k → okPg gs j) ∧ Below (w.heap.size + 1) (w.alloc (.cells #[.int .u32 e, .slice A n c] 25)) wr) (fun _ _ i _ => n - (intOf i).toNat)
    case atStart => exact ⟨0, by omega, rfl, rfl, rfl, Lib.hid (fun j hj => by omega), Below.refl _ _⟩
    case round =>
      obtain ⟨k, hk, rfl, rfl, rfl, hok, hbw⟩ := hrel
      obtain ⟨x0, x1, xl⟩ := box2 hbw
      have hw0 : Below w.heap.size w wr := hB0.trans (hbw.mono (by omega))
      have hew : IntKind.i64.wrap e = e := IntWalk.i64_in _ (by omega)
      by_cases hlt : k < n
      · have hr := h.below' hw0 hB
        have hlen : k < gs.length := by rw [HL.out]; exact hlt
        have hfn := hr.fine_ hlt
        have hge := lastP_ge hok.out
        have hS := Lib.hid (stp_succ e gs k hlen)
        have hLs := Lib.hid (lastP_succ gs k)
        have hNo : Hid (¬ okPg gs k → ∀ w', Below w.heap.size w w' → ErrPost e gs w (.returned (.int .i64 3)) w') := Lib.hid (fun hx w' hb => .bad (by rw [HL.out]; exact hbig') hlen hx hb)
        have hOk := Lib.hid (fun x : okPg gs k => ok_next hok.out x)
        unfold okPg at hNo hOk
        obtain ⟨b, o, rfl, hb, c0, c1, c2⟩ := hr.at_ hlt
        generalize lastP gs k = la at *
        generalize gs.getD k .zero = g at *
        generalize stp e gs k = sb at *
        have hbwr : b < wr.heap.size := by have := hw0.size; omega
        obtain ⟨p, r, A', n', c', xs⟩ := g
        dsimp only at c0 c1 c2 hLs
        obtain ⟨hf1, hf2, hf3, hf4⟩ := hfn
        dsimp only at hf1 hf2 hf3 hf4
        unfold I64 at hf2 hf3
        have hkn : (k : Int) < n := by omega
        have hbx : ∀ X, Below w.heap.size w (wr.alloc X) := fun X => hw0.alloc hw0.size X
        have hbw3 : ∀ X, Below (w.heap.size + 1) (w.alloc (.cells #[.int .u32 e, .slice (some ⟨b, o, none⟩) n c] 25)) (wr.alloc X) := fun X => hbw.alloc xl X
        by_cases hp : p ≤ la
        · have d1 : decide (p ≤ la) = true := by simpa using hp
          go_wp2
          go_ret
          exact hNo.out (fun hx => by unfold pgOk at hx; dsimp only at hx; omega) _ (hbx _)
        have d1 : decide (p ≤ la) = false := by simpa using hp
        by_cases hp6 : 63 < p
        · have d2 : decide (63 < p) = true := by simpa using hp6
          go_wp2
          go_ret
          exact hNo.out (fun hx => by unfold pgOk at hx; dsimp only at hx; omega) _ (hbx _)
        have d2 : decide (63 < p) = false := by simpa using hp6
        by_cases hr1 : r < 1
        · have d3 : decide (r < 1) = true := by simpa using hr1
          go_wp2
          go_ret
          exact hNo.out (fun hx => by unfold pgOk at hx; dsimp only at hx; omega) _ (hbx _)
        have d3 : decide (r < 1) = false := by simpa using hr1
        by_cases hr7 : 7 < r
        · have d4 : decide (7 < r) = true := by simpa using hr7
          go_wp2
          go_ret
          exact hNo.out (fun hx => by unfold pgOk at hx; dsimp only at hx; omega) _ (hbx _)
        have d4 : decide (7 < r) = false := by simpa using hr7
        by_cases hr6 : 6 ≤ r
        · have d5 : decide (6 ≤ r) = true := by simpa using hr6
          go_wp2
          go_ret
          exact hNo.out (fun hx => by unfold pgOk at hx; dsimp only at hx; omega) _ (hbx _)
        have d5 : decide (6 ≤ r) = false := by simpa using hr6
        by_cases hl : 16 < n'
        · have d6 : decide (16 < (n' : Int)) = true := by simp; omega
          go_wp2
          go_ret
          exact hNo.out (fun hx => by unfold pgOk at hx; dsimp only at hx; omega) _ (hbx _)
        have d6 : decide (16 < (n' : Int)) = false := by simp; omega
        have hGood := Lib.hid (hOk.out (by unfold pgOk; dsimp only; omega))
        have hw1 : IntKind.i64.wrap (16 * p) = 16 * p := IntWalk.i64_in _ (by omega)
        have hw2 : IntKind.i64.wrap (16 * p + 16) = 16 * p + 16 := IntWalk.i64_in _ (by omega)
        by_cases hc : (4 ≤ r ∧ 16 * p ≤ e) ∧ e < 16 * p + 16
        · obtain ⟨⟨hc1, hc2⟩, hc3⟩ := hc
          have y1 : decide (4 ≤ r) = true := by simpa using hc1
          have y2 : decide (16 * p ≤ e) = true := by simpa using hc2
          have y3 : decide (e < 16 * p + 16) = true := by simpa using hc3
          go_wp2
          go_roundw
          case rel => exact ⟨k + 1, by omega, by go_num, by rw [hS.out]; simp [goesP]; omega, by rw [hLs.out], Lib.hid hGood.out, hbw3 _⟩
          case measure => simp [intOf]; omega
        · have hst : Hid ((sb || goesP e ⟨p, r, A', n', c', xs⟩) = sb) := Lib.hid (by rw [show goesP e ⟨p, r, A', n', c', xs⟩ = false by simp [goesP]; omega]; simp)
          by_cases hc1 : 4 ≤ r
          · have y1 : decide (4 ≤ r) = true := by simpa using hc1
            by_cases hc2 : 16 * p ≤ e
            · have y2 : decide (16 * p ≤ e) = true := by simpa using hc2
              have y3 : decide (e < 16 * p + 16) = false := by simp; omega
              go_wp2
              go_roundw
              case rel => exact ⟨k + 1, by omega, by go_num, by rw [hS.out, hst.out], by rw [hLs.out], Lib.hid hGood.out, hbw3 _⟩
              case measure => simp [intOf]; omega
            · have y2 : decide (16 * p ≤ e) = false := by simpa using hc2
              go_wp2
              go_roundw
              case rel => exact ⟨k + 1, by omega, by go_num, by rw [hS.out, hst.out], by rw [hLs.out], Lib.hid hGood.out, hbw3 _⟩
              case measure => simp [intOf]; omega
          · have y1 : decide (4 ≤ r) = false := by simpa using hc1
            go_wp2
            go_roundw
            case rel => exact ⟨k + 1, by omega, by go_num, by rw [hS.out, hst.out], by rw [hLs.out], Lib.hid hGood.out, hbw3 _⟩
            case measure => simp [intOf]; omega
      · obtain rfl : k = n := by omega
        have hand := and3 he.1 he.2
        have hE := Lib.hid (ErrIs.three (e := e) HL.out hbig' hok.out)
        have hG := Lib.hid (ErrIs.zero (e := e) HL.out hbig' hok.out)
        generalize stp e gs k = sb at *
        cases sb with
        | false =>
          go_wp2
          go_ret
          exact ⟨3, rfl, hE.out (by simp), hw0⟩
        | true =>
          by_cases h4 : e % 4 = 0
          · have h4' : (e % 4 != 0) = false := by simpa using h4
            go_wp2
            go_ret
            exact ⟨0, rfl, hG.out (by simpa using h4), hw0⟩
          · have h4' : (e % 4 != 0) = true := by simpa using h4
            go_wp2
            go_ret
            exact ⟨3, rfl, hE.out (by simp [h4]), hw0⟩
end Go.Proofs.YtdgjcjhdclihpaaDoor
