/- The sign that stands here: words.op (printed by mkWdC.py). -/
import Derived.Test.YtdhepkljidpigaaWdB
import Derived.Shelf.Lay
import Derived.Shelf.Strings.Prefix
import Derived.Ground.NamesProg
namespace Go.Proofs
open Go.Shelf
shelf_lay Lays.n99 Nm 99 at Try as Try.lays99
end Go.Proofs
namespace Go.Proofs.Ytdhepkljidpigaa
open Go.RowKit
set_option maxHeartbeats 400000
set_option linter.unusedVariables false
set_option linter.unusedSimpArgs false
def signsB : List ByteArray := [⟨#[38, 38]⟩, ⟨#[124, 124]⟩, ⟨#[62, 62]⟩, ⟨#[124]⟩, ⟨#[38]⟩, ⟨#[59]⟩, ⟨#[60]⟩, ⟨#[62]⟩, ⟨#[40]⟩, ⟨#[41]⟩]
def pre (s o : ByteArray) : Bool := Lib.hasPrefix s.data.toList o.data.toList
def opF (s : ByteArray) (l : List ByteArray) : ByteArray := (l.find? (pre s)).getD ByteArray.empty
/-- The sign that a text begins with. -/
def opS (s : ByteArray) : ByteArray := opF s signsB
theorem opF_hit {s o : ByteArray} {l : List ByteArray} (h : pre s o = true) : opF s (o :: l) = o := by simp [opF, List.find?, h]
theorem opF_step {s o : ByteArray} {l : List ByteArray} (h : pre s o = false) : opF s (o :: l) = opF s l := by simp [opF, List.find?, h]
def PreP (b : Bool) (w : World) (e : Ending) (w' : World) : Prop := e = .returned (.bool b) ∧ w' = w
theorem prefix_any (s o : ByteArray) (w : World) : Calls Try.prog 18 #[.string s, .string o] w (PreP (pre s o) w) := Any.strings_HasPrefix Try.lays99 s o w
theorem sign_0 (W : World) : (Instr.index 43 (.agg #[.string ⟨#[38, 38]⟩, .string ⟨#[124, 124]⟩, .string ⟨#[62, 62]⟩, .string ⟨#[124]⟩, .string ⟨#[38]⟩, .string ⟨#[59]⟩, .string ⟨#[60]⟩, .string ⟨#[62]⟩, .string ⟨#[40]⟩, .string ⟨#[41]⟩]) (.int .i64 0)).run Try.prog W = .ok (.string ⟨#[38, 38]⟩) W := by
  kernel_rfl
theorem sign_1 (W : World) : (Instr.index 43 (.agg #[.string ⟨#[38, 38]⟩, .string ⟨#[124, 124]⟩, .string ⟨#[62, 62]⟩, .string ⟨#[124]⟩, .string ⟨#[38]⟩, .string ⟨#[59]⟩, .string ⟨#[60]⟩, .string ⟨#[62]⟩, .string ⟨#[40]⟩, .string ⟨#[41]⟩]) (.int .i64 1)).run Try.prog W = .ok (.string ⟨#[124, 124]⟩) W := by
  kernel_rfl
theorem sign_2 (W : World) : (Instr.index 43 (.agg #[.string ⟨#[38, 38]⟩, .string ⟨#[124, 124]⟩, .string ⟨#[62, 62]⟩, .string ⟨#[124]⟩, .string ⟨#[38]⟩, .string ⟨#[59]⟩, .string ⟨#[60]⟩, .string ⟨#[62]⟩, .string ⟨#[40]⟩, .string ⟨#[41]⟩]) (.int .i64 2)).run Try.prog W = .ok (.string ⟨#[62, 62]⟩) W := by
  kernel_rfl
theorem sign_3 (W : World) : (Instr.index 43 (.agg #[.string ⟨#[38, 38]⟩, .string ⟨#[124, 124]⟩, .string ⟨#[62, 62]⟩, .string ⟨#[124]⟩, .string ⟨#[38]⟩, .string ⟨#[59]⟩, .string ⟨#[60]⟩, .string ⟨#[62]⟩, .string ⟨#[40]⟩, .string ⟨#[41]⟩]) (.int .i64 3)).run Try.prog W = .ok (.string ⟨#[124]⟩) W := by
  kernel_rfl
theorem sign_4 (W : World) : (Instr.index 43 (.agg #[.string ⟨#[38, 38]⟩, .string ⟨#[124, 124]⟩, .string ⟨#[62, 62]⟩, .string ⟨#[124]⟩, .string ⟨#[38]⟩, .string ⟨#[59]⟩, .string ⟨#[60]⟩, .string ⟨#[62]⟩, .string ⟨#[40]⟩, .string ⟨#[41]⟩]) (.int .i64 4)).run Try.prog W = .ok (.string ⟨#[38]⟩) W := by
  kernel_rfl
theorem sign_5 (W : World) : (Instr.index 43 (.agg #[.string ⟨#[38, 38]⟩, .string ⟨#[124, 124]⟩, .string ⟨#[62, 62]⟩, .string ⟨#[124]⟩, .string ⟨#[38]⟩, .string ⟨#[59]⟩, .string ⟨#[60]⟩, .string ⟨#[62]⟩, .string ⟨#[40]⟩, .string ⟨#[41]⟩]) (.int .i64 5)).run Try.prog W = .ok (.string ⟨#[59]⟩) W := by
  kernel_rfl
theorem sign_6 (W : World) : (Instr.index 43 (.agg #[.string ⟨#[38, 38]⟩, .string ⟨#[124, 124]⟩, .string ⟨#[62, 62]⟩, .string ⟨#[124]⟩, .string ⟨#[38]⟩, .string ⟨#[59]⟩, .string ⟨#[60]⟩, .string ⟨#[62]⟩, .string ⟨#[40]⟩, .string ⟨#[41]⟩]) (.int .i64 6)).run Try.prog W = .ok (.string ⟨#[60]⟩) W := by
  kernel_rfl
theorem sign_7 (W : World) : (Instr.index 43 (.agg #[.string ⟨#[38, 38]⟩, .string ⟨#[124, 124]⟩, .string ⟨#[62, 62]⟩, .string ⟨#[124]⟩, .string ⟨#[38]⟩, .string ⟨#[59]⟩, .string ⟨#[60]⟩, .string ⟨#[62]⟩, .string ⟨#[40]⟩, .string ⟨#[41]⟩]) (.int .i64 7)).run Try.prog W = .ok (.string ⟨#[62]⟩) W := by
  kernel_rfl
theorem sign_8 (W : World) : (Instr.index 43 (.agg #[.string ⟨#[38, 38]⟩, .string ⟨#[124, 124]⟩, .string ⟨#[62, 62]⟩, .string ⟨#[124]⟩, .string ⟨#[38]⟩, .string ⟨#[59]⟩, .string ⟨#[60]⟩, .string ⟨#[62]⟩, .string ⟨#[40]⟩, .string ⟨#[41]⟩]) (.int .i64 8)).run Try.prog W = .ok (.string ⟨#[40]⟩) W := by
  kernel_rfl
theorem sign_9 (W : World) : (Instr.index 43 (.agg #[.string ⟨#[38, 38]⟩, .string ⟨#[124, 124]⟩, .string ⟨#[62, 62]⟩, .string ⟨#[124]⟩, .string ⟨#[38]⟩, .string ⟨#[59]⟩, .string ⟨#[60]⟩, .string ⟨#[62]⟩, .string ⟨#[40]⟩, .string ⟨#[41]⟩]) (.int .i64 9)).run Try.prog W = .ok (.string ⟨#[41]⟩) W := by
  kernel_rfl
set_option maxHeartbeats 4000000 in
set_option maxRecDepth 100000 in
theorem op_any (s : ByteArray) (w : World) : Calls Try.prog 11 #[.string s] w (fun e w' => e = .returned (.string (opS s)) ∧ w' = w) := by
  have HP := Lib.hid (fun o w => prefix_any s o w)
  unfold PreP at HP
  go_enter Try.func11, Try.ntmps11
  go_wp2
  go_loop [6] (fun i => ∃ k : Nat, k ≤ 10 ∧ i = .int .i64 k ∧ Hid (opS s = opF s (signsB.drop k))) (fun i => 10 - (intOf i).toNat)
  case atStart => exact ⟨0, by omega, rfl, Lib.hid rfl⟩
  case round =>
    obtain ⟨k, hk, rfl, hc⟩ := hrel
    have hcl : k = 0 ∨ k = 1 ∨ k = 2 ∨ k = 3 ∨ k = 4 ∨ k = 5 ∨ k = 6 ∨ k = 7 ∨ k = 8 ∨ k = 9 ∨ k = 10 := by omega
    rcases hcl with rfl | rfl | rfl | rfl | rfl | rfl | rfl | rfl | rfl | rfl | rfl
    · have hit := Lib.hid (fun h : pre s ⟨#[38, 38]⟩ = true => hc.out.trans (show opF s (signsB.drop 0) = ⟨#[38, 38]⟩ from opF_hit h))
      have nxt := Lib.hid (fun h : pre s ⟨#[38, 38]⟩ = false => hc.out.trans (show opF s (signsB.drop 0) = opF s (signsB.drop 1) from opF_step h))
      have HQ := Lib.hid (fun w => HP.out ⟨#[38, 38]⟩ w)
      have hix := sign_0
      generalize pre s ⟨#[38, 38]⟩ = b at *
      clear hc
      cases b with
      | true =>
        have e := Lib.hid (hit.out rfl)
        clear hit nxt
        go_wp2_with fail
        refine (HQ.out _).mono ?_
        rintro e' w' ⟨rfl, rfl⟩
        go_wp2
        go_ret
        exact ⟨by rw [e.out]; rfl, rfl⟩
      | false =>
        have e := Lib.hid (nxt.out rfl)
        clear hit nxt
        go_wp2_with fail
        refine (HQ.out _).mono ?_
        rintro e' w' ⟨rfl, rfl⟩
        go_wp2
        go_round
        case rel => exact ⟨1, by omega, rfl, e⟩
        case measure => simp [intOf]
    · have hit := Lib.hid (fun h : pre s ⟨#[124, 124]⟩ = true => hc.out.trans (show opF s (signsB.drop 1) = ⟨#[124, 124]⟩ from opF_hit h))
      have nxt := Lib.hid (fun h : pre s ⟨#[124, 124]⟩ = false => hc.out.trans (show opF s (signsB.drop 1) = opF s (signsB.drop 2) from opF_step h))
      have HQ := Lib.hid (fun w => HP.out ⟨#[124, 124]⟩ w)
      have hix := sign_1
      generalize pre s ⟨#[124, 124]⟩ = b at *
      clear hc
      cases b with
      | true =>
        have e := Lib.hid (hit.out rfl)
        clear hit nxt
        go_wp2_with fail
        refine (HQ.out _).mono ?_
        rintro e' w' ⟨rfl, rfl⟩
        go_wp2
        go_ret
        exact ⟨by rw [e.out]; rfl, rfl⟩
      | false =>
        have e := Lib.hid (nxt.out rfl)
        clear hit nxt
        go_wp2_with fail
        refine (HQ.out _).mono ?_
        rintro e' w' ⟨rfl, rfl⟩
        go_wp2
        go_round
        case rel => exact ⟨2, by omega, rfl, e⟩
        case measure => simp [intOf]
    · have hit := Lib.hid (fun h : pre s ⟨#[62, 62]⟩ = true => hc.out.trans (show opF s (signsB.drop 2) = ⟨#[62, 62]⟩ from opF_hit h))
      have nxt := Lib.hid (fun h : pre s ⟨#[62, 62]⟩ = false => hc.out.trans (show opF s (signsB.drop 2) = opF s (signsB.drop 3) from opF_step h))
      have HQ := Lib.hid (fun w => HP.out ⟨#[62, 62]⟩ w)
      have hix := sign_2
      generalize pre s ⟨#[62, 62]⟩ = b at *
      clear hc
      cases b with
      | true =>
        have e := Lib.hid (hit.out rfl)
        clear hit nxt
        go_wp2_with fail
        refine (HQ.out _).mono ?_
        rintro e' w' ⟨rfl, rfl⟩
        go_wp2
        go_ret
        exact ⟨by rw [e.out]; rfl, rfl⟩
      | false =>
        have e := Lib.hid (nxt.out rfl)
        clear hit nxt
        go_wp2_with fail
        refine (HQ.out _).mono ?_
        rintro e' w' ⟨rfl, rfl⟩
        go_wp2
        go_round
        case rel => exact ⟨3, by omega, rfl, e⟩
        case measure => simp [intOf]
    · have hit := Lib.hid (fun h : pre s ⟨#[124]⟩ = true => hc.out.trans (show opF s (signsB.drop 3) = ⟨#[124]⟩ from opF_hit h))
      have nxt := Lib.hid (fun h : pre s ⟨#[124]⟩ = false => hc.out.trans (show opF s (signsB.drop 3) = opF s (signsB.drop 4) from opF_step h))
      have HQ := Lib.hid (fun w => HP.out ⟨#[124]⟩ w)
      have hix := sign_3
      generalize pre s ⟨#[124]⟩ = b at *
      clear hc
      cases b with
      | true =>
        have e := Lib.hid (hit.out rfl)
        clear hit nxt
        go_wp2_with fail
        refine (HQ.out _).mono ?_
        rintro e' w' ⟨rfl, rfl⟩
        go_wp2
        go_ret
        exact ⟨by rw [e.out]; rfl, rfl⟩
      | false =>
        have e := Lib.hid (nxt.out rfl)
        clear hit nxt
        go_wp2_with fail
        refine (HQ.out _).mono ?_
        rintro e' w' ⟨rfl, rfl⟩
        go_wp2
        go_round
        case rel => exact ⟨4, by omega, rfl, e⟩
        case measure => simp [intOf]
    · have hit := Lib.hid (fun h : pre s ⟨#[38]⟩ = true => hc.out.trans (show opF s (signsB.drop 4) = ⟨#[38]⟩ from opF_hit h))
      have nxt := Lib.hid (fun h : pre s ⟨#[38]⟩ = false => hc.out.trans (show opF s (signsB.drop 4) = opF s (signsB.drop 5) from opF_step h))
      have HQ := Lib.hid (fun w => HP.out ⟨#[38]⟩ w)
      have hix := sign_4
      generalize pre s ⟨#[38]⟩ = b at *
      clear hc
      cases b with
      | true =>
        have e := Lib.hid (hit.out rfl)
        clear hit nxt
        go_wp2_with fail
        refine (HQ.out _).mono ?_
        rintro e' w' ⟨rfl, rfl⟩
        go_wp2
        go_ret
        exact ⟨by rw [e.out]; rfl, rfl⟩
      | false =>
        have e := Lib.hid (nxt.out rfl)
        clear hit nxt
        go_wp2_with fail
        refine (HQ.out _).mono ?_
        rintro e' w' ⟨rfl, rfl⟩
        go_wp2
        go_round
        case rel => exact ⟨5, by omega, rfl, e⟩
        case measure => simp [intOf]
    · have hit := Lib.hid (fun h : pre s ⟨#[59]⟩ = true => hc.out.trans (show opF s (signsB.drop 5) = ⟨#[59]⟩ from opF_hit h))
      have nxt := Lib.hid (fun h : pre s ⟨#[59]⟩ = false => hc.out.trans (show opF s (signsB.drop 5) = opF s (signsB.drop 6) from opF_step h))
      have HQ := Lib.hid (fun w => HP.out ⟨#[59]⟩ w)
      have hix := sign_5
      generalize pre s ⟨#[59]⟩ = b at *
      clear hc
      cases b with
      | true =>
        have e := Lib.hid (hit.out rfl)
        clear hit nxt
        go_wp2_with fail
        refine (HQ.out _).mono ?_
        rintro e' w' ⟨rfl, rfl⟩
        go_wp2
        go_ret
        exact ⟨by rw [e.out]; rfl, rfl⟩
      | false =>
        have e := Lib.hid (nxt.out rfl)
        clear hit nxt
        go_wp2_with fail
        refine (HQ.out _).mono ?_
        rintro e' w' ⟨rfl, rfl⟩
        go_wp2
        go_round
        case rel => exact ⟨6, by omega, rfl, e⟩
        case measure => simp [intOf]
    · have hit := Lib.hid (fun h : pre s ⟨#[60]⟩ = true => hc.out.trans (show opF s (signsB.drop 6) = ⟨#[60]⟩ from opF_hit h))
      have nxt := Lib.hid (fun h : pre s ⟨#[60]⟩ = false => hc.out.trans (show opF s (signsB.drop 6) = opF s (signsB.drop 7) from opF_step h))
      have HQ := Lib.hid (fun w => HP.out ⟨#[60]⟩ w)
      have hix := sign_6
      generalize pre s ⟨#[60]⟩ = b at *
      clear hc
      cases b with
      | true =>
        have e := Lib.hid (hit.out rfl)
        clear hit nxt
        go_wp2_with fail
        refine (HQ.out _).mono ?_
        rintro e' w' ⟨rfl, rfl⟩
        go_wp2
        go_ret
        exact ⟨by rw [e.out]; rfl, rfl⟩
      | false =>
        have e := Lib.hid (nxt.out rfl)
        clear hit nxt
        go_wp2_with fail
        refine (HQ.out _).mono ?_
        rintro e' w' ⟨rfl, rfl⟩
        go_wp2
        go_round
        case rel => exact ⟨7, by omega, rfl, e⟩
        case measure => simp [intOf]
    · have hit := Lib.hid (fun h : pre s ⟨#[62]⟩ = true => hc.out.trans (show opF s (signsB.drop 7) = ⟨#[62]⟩ from opF_hit h))
      have nxt := Lib.hid (fun h : pre s ⟨#[62]⟩ = false => hc.out.trans (show opF s (signsB.drop 7) = opF s (signsB.drop 8) from opF_step h))
      have HQ := Lib.hid (fun w => HP.out ⟨#[62]⟩ w)
      have hix := sign_7
      generalize pre s ⟨#[62]⟩ = b at *
      clear hc
      cases b with
      | true =>
        have e := Lib.hid (hit.out rfl)
        clear hit nxt
        go_wp2_with fail
        refine (HQ.out _).mono ?_
        rintro e' w' ⟨rfl, rfl⟩
        go_wp2
        go_ret
        exact ⟨by rw [e.out]; rfl, rfl⟩
      | false =>
        have e := Lib.hid (nxt.out rfl)
        clear hit nxt
        go_wp2_with fail
        refine (HQ.out _).mono ?_
        rintro e' w' ⟨rfl, rfl⟩
        go_wp2
        go_round
        case rel => exact ⟨8, by omega, rfl, e⟩
        case measure => simp [intOf]
    · have hit := Lib.hid (fun h : pre s ⟨#[40]⟩ = true => hc.out.trans (show opF s (signsB.drop 8) = ⟨#[40]⟩ from opF_hit h))
      have nxt := Lib.hid (fun h : pre s ⟨#[40]⟩ = false => hc.out.trans (show opF s (signsB.drop 8) = opF s (signsB.drop 9) from opF_step h))
      have HQ := Lib.hid (fun w => HP.out ⟨#[40]⟩ w)
      have hix := sign_8
      generalize pre s ⟨#[40]⟩ = b at *
      clear hc
      cases b with
      | true =>
        have e := Lib.hid (hit.out rfl)
        clear hit nxt
        go_wp2_with fail
        refine (HQ.out _).mono ?_
        rintro e' w' ⟨rfl, rfl⟩
        go_wp2
        go_ret
        exact ⟨by rw [e.out]; rfl, rfl⟩
      | false =>
        have e := Lib.hid (nxt.out rfl)
        clear hit nxt
        go_wp2_with fail
        refine (HQ.out _).mono ?_
        rintro e' w' ⟨rfl, rfl⟩
        go_wp2
        go_round
        case rel => exact ⟨9, by omega, rfl, e⟩
        case measure => simp [intOf]
    · have hit := Lib.hid (fun h : pre s ⟨#[41]⟩ = true => hc.out.trans (show opF s (signsB.drop 9) = ⟨#[41]⟩ from opF_hit h))
      have nxt := Lib.hid (fun h : pre s ⟨#[41]⟩ = false => hc.out.trans (show opF s (signsB.drop 9) = opF s (signsB.drop 10) from opF_step h))
      have HQ := Lib.hid (fun w => HP.out ⟨#[41]⟩ w)
      have hix := sign_9
      generalize pre s ⟨#[41]⟩ = b at *
      clear hc
      cases b with
      | true =>
        have e := Lib.hid (hit.out rfl)
        clear hit nxt
        go_wp2_with fail
        refine (HQ.out _).mono ?_
        rintro e' w' ⟨rfl, rfl⟩
        go_wp2
        go_ret
        exact ⟨by rw [e.out]; rfl, rfl⟩
      | false =>
        have e := Lib.hid (nxt.out rfl)
        clear hit nxt
        go_wp2_with fail
        refine (HQ.out _).mono ?_
        rintro e' w' ⟨rfl, rfl⟩
        go_wp2
        go_round
        case rel => exact ⟨10, by omega, rfl, e⟩
        case measure => simp [intOf]
    · have e : Hid (opS s = ByteArray.empty) := Lib.hid (by rw [hc.out]; rfl)
      go_wp2
      go_ret
      exact ⟨by rw [e.out]; rfl, rfl⟩
end Go.Proofs.Ytdhepkljidpigaa
