/- Contract of load.Byte. -/
import Derived.Test.YtgmpcdonmlhohaaLbB
namespace Go.Proofs.Ytgmpcdonmlhohaa
open Go.RowKit
set_option maxHeartbeats 400000
set_option linter.unusedVariables false
set_option linter.unusedSimpArgs false
theorem below_drewN {B : Nat} {w w' : World} (h : Below B w w') (n : Nat) : Below B w (w'.drewN n) := ⟨h.os, h.tape, h.output, h.size, h.block⟩
set_option maxHeartbeats 4000000 in
set_option maxRecDepth 100000 in
theorem byte_any (e : Int) (A : Option Addr) (n c : Nat) (gs : List Pg) (a : Int) (w : World) (B : Nat) (h : RP w B A n gs) (hB : B ≤ w.heap.size) (he : 0 ≤ e ∧ e < 4294967296) (ha : 0 ≤ a ∧ a < 4294967296) (hn : n ≤ 9223372036854775807) :
    Calls Try.prog 8 #[.agg #[.int .u32 e, .slice A n c], .int .u32 a] w (BytPost e gs a w) := by
  have HL := Lib.hid h.2.1
  have hB0 : Below w.heap.size w (w.alloc (.cells #[.int .u32 e, .slice A n c] 25)) := (Below.refl _ _).alloc (Nat.le_refl _) _
  go_enter Try.func8, Try.ntmps8
  go_wp2_with fail
  go_wp2_with (go_at_call 24; refine (check_any e A n c gs _ B (h.below' hB0 hB) (by simp; omega) he hn).mono ?_)
  rintro er w1 ⟨x, rfl, hx, hb1⟩
  have hb1' : Below (w.heap.size + 1) (w.alloc (.cells #[.int .u32 e, .slice A n c] 25)) w1 := by simpa using hb1
  obtain ⟨x0, x1, xl⟩ := box2 hb1'
  by_cases hz : x = 0
  · subst hz
    have hpg := Lib.hid hx.pages
    have hx0 := Lib.hid hx
    have hdiv : IntKind.i64.wrap (a.tdiv 16) = a / 16 := IntWalk.i64_quo a 16 (by omega)
    have haw : IntKind.i64.wrap a = a := IntWalk.i64_in _ (by omega)
    have hmod : a.tmod 16 = a % 16 := IntWalk.rem_in _ _ ha.1
    go_wp2
    go_loopw [19] (fun i wr => ∃ k : Nat, k ≤ n ∧ i = .int .i64 k ∧ Hid (∀ j, j < k → (gs.getD j .zero).p ≠ a / 16) ∧ Below (w.heap.size + 1) (w.alloc (.cells #[.int .u32 e, .slice A n c] 25)) wr) (fun i _ => n - (intOf i).toNat)
    case atStart => exact ⟨0, by omega, rfl, Lib.hid (fun j hj => by omega), hb1'⟩
    case round =>
      obtain ⟨k, hk, rfl, hno, hbw⟩ := hrel
      have hw0 : Below w.heap.size w wr := hB0.trans (hbw.mono (by omega))
      by_cases hlt : k < n
      · have hr := h.below' hw0 hB
        have hlen : k < gs.length := by rw [HL.out]; exact hlt
        obtain ⟨hf1, hf2, hf3, hf4⟩ := hr.fine_ hlt
        have hNx := Lib.hid (fun x : (gs.getD k .zero).p ≠ a / 16 => ok_next hno.out x)
        have hHit := Lib.hid (fun (x : (gs.getD k .zero).p = a / 16) (m : Nat) (hm : a % 16 = m) (y : Int) hy => BytIs.hit hx0.out hlen hno.out x hm (x := y) hy)
        have hpk := hpg.out.2 k hlen
        obtain ⟨b, o, rfl, hb, c0, c1, c2⟩ := hr.at_ hlt
        generalize gs.getD k .zero = g at *
        have hbwr : b < wr.heap.size := by have := hw0.size; omega
        obtain ⟨p, r, A', n', c', xs⟩ := g
        dsimp only at c0 c1 c2 hpk
        dsimp only at hf1 hf2 hf3 hf4
        unfold I64 at hf2 hf3
        have hkn : (k : Int) < n := by omega
        have hbx : ∀ X, Below w.heap.size w (wr.alloc X) := fun X => hw0.alloc hw0.size X
        have hbw3 : ∀ X, Below (w.heap.size + 1) (w.alloc (.cells #[.int .u32 e, .slice (some ⟨b, o, none⟩) n c] 25)) (wr.alloc X) := fun X => hbw.alloc (by have := hbw.size; simp at this; omega) X
        by_cases hq : a / 16 = p
        · have d1 : (a / 16 != p) = false := by simpa using hq
          obtain ⟨m, hm⟩ : ∃ m : Nat, a % 16 = m := ⟨(a % 16).toNat, by omega⟩
          have hm16 : m < 16 := by omega
          rw [hm] at hmod
          by_cases hmn : m < n'
          · obtain ⟨b', o', rfl, hb', cc, hc1, hc2⟩ := hf1.at_ hmn
            have hy := Lib.hid (hHit.out hq.symm m hm _ rfl)
            rw [if_pos hmn] at hy
            generalize xs.getD m 0 = y at *
            have hbw' : b' < wr.heap.size := by have := hw0.size; omega
            have d2 : decide (m < n') = true := by simpa using hmn
            have HQ := Lib.hid hq
            have HM := Lib.hid hm
            clear hq hm
            go_wp2
            go_quiet (fail)
            go_wp2
            go_ret3
            exact ⟨_, _, _, rfl, hy.out, below_drewN (hbx _) _⟩
          · have d2 : decide (m < n') = false := by simpa using hmn
            have hy := Lib.hid (hHit.out hq.symm m hm _ rfl)
            rw [if_neg hmn] at hy
            have HQ := Lib.hid hq
            have HM := Lib.hid hm
            clear hq hm
            go_wp2
            go_quiet (fail)
            go_wp2
            go_ret3
            exact ⟨_, _, _, rfl, hy.out, below_drewN (hbx _) _⟩
        · have d1 : (a / 16 != p) = true := by simpa using hq
          have HN := Lib.hid (hNx.out (fun h => hq h.symm))
          go_wp2
          go_roundw
          case rel => exact ⟨k + 1, by omega, by go_num, HN, hbw3 _⟩
          case measure => simp [intOf]; omega
      · obtain rfl : k = n := by omega
        go_wp2
        go_ret3
        exact ⟨_, _, _, rfl, ⟨0, hx0.out, .inr (.inr ⟨rfl, by rw [HL.out]; exact hno.out, rfl, rfl, rfl⟩)⟩, hw0⟩
  · have hz' : (x != 0) = true := by simpa using hz
    go_wp2
    go_ret3
    exact ⟨_, _, _, rfl, ⟨x, hx, .inl ⟨hz, rfl, rfl, rfl⟩⟩, hB0.trans (hb1.mono (by simp))⟩
end Go.Proofs.Ytgmpcdonmlhohaa
