/- The texts of the law ringlaw1.HeapTexts: its key function. -/
import Derived.Test.YtenhcpobncmedaaHpDS
namespace Go.Proofs.Ytenhcpobncmedaa
open Go.RowKit
set_option maxHeartbeats 600000
set_option linter.unusedVariables false
set_option linter.unusedSimpArgs false
def tc (s : ByteArray) : List Value := [.string s]
def tz : ByteArray := ⟨#[]⟩
/-- Which text a number chooses. -/
def tIdx (nt : Nat) (v : Int) : Nat := ((IntKind.u64.wrap v).tmod (nt : Int)).toNat
def tKey (ts : List ByteArray) (v : Int) : ByteArray := if ts.length = 0 then tz else ts.getD (tIdx ts.length v) tz
set_option maxRecDepth 100000 in
theorem key41 (q : Nat) (At : Option Addr) (nt ct : Nat) (ts : List ByteArray) (v : Int) (w : World) (B : Nat) (h : RS tc 1 w B At nt ts) (hn : nt ≤ 140737488355328) (hc : w.cell? ⟨q, 0, none⟩ = some (.slice At nt ct)) (hv : (Lit.int .i64 v).wf = true) :
    Calls Try.prog 41 #[.int .i64 v, .pointer (some ⟨q, 0, none⟩)] w fun e w' => e = .returned (.string (tKey ts v)) ∧ ∃ nq, w' = w.drewN nq := by
  have hl : ts.length = nt := h.2
  have hlt := pr_lt_cell hc
  by_cases h0 : nt = 0
  · subst h0
    have HK : Hid (tKey ts v = tz) := Lib.hid (by unfold tKey; rw [if_pos hl])
    clear h hl
    go_enter Try.func41, Try.ntmps41
    go_wp2
    go_ret
    exact ⟨by rw [HK.out]; rfl, 0, rfl⟩
  · have hv2 := i64_range hv
    obtain ⟨x, hx⟩ : ∃ x, IntKind.u64.wrap v = x := ⟨_, rfl⟩
    have hx0 : 0 ≤ x := by rw [← hx]; simp [IntKind.wrap, IntKind.bits, IntKind.signed]; omega
    obtain ⟨m, hm⟩ : ∃ m : Nat, x.tmod (nt : Int) = m := ⟨(x.tmod nt).toNat, by have := Int.tmod_nonneg (nt : Int) hx0; omega⟩
    have hmn : m < nt := by have := Int.tmod_lt_of_pos x (show (0 : Int) < nt by omega); omega
    have HK : Hid (tKey ts v = ts.getD m tz) := Lib.hid (by unfold tKey tIdx; rw [if_neg (by omega), hl, hx, hm]; rfl)
    obtain ⟨b, o, rfl, hb, _, hcell⟩ := RS.at_ (cl := tc) (s := 1) (fun _ => rfl) tz h hmn
    have c0 := hcell 0 _ rfl
    simp only [Nat.mul_one, Nat.add_zero] at c0
    generalize ts.getD m tz = s at *
    have hmi : (m : Int) < (nt : Int) := by omega
    have d0 : ((nt : Int) == 0) = false := by simp; omega
    have hmb : (m : Int) < 140737488355328 := by omega
    clear h hl hcell
    go_enter Try.func41, Try.ntmps41
    go_wp2_with fail
    refine wp_region_quiet_lit (by kernel_rfl) (by kernel_rfl) ?_
    repeat (go_big_quiet_step (fail))
    refine wpQuiet_nil ?_
    intro _ hw'
    obtain ⟨nq, hw''⟩ := hw'
    subst hw''
    go_wp2
    go_ret
    exact ⟨by rw [HK.out]; rfl, nq, rfl⟩
section
open Go.ChangeShapes Go.WideShapes Go.ChangeAt Go.Joins Go.Deep
variable {H : Type} {enc : TypeId × Value → H} {P : Program} {w : World} {base : Nat} {held : Bool}
theorem open_texts {t e : TypeId} {fuel : Nat} {v : Value} {x : DataW H × List MemPlace} (ht : P.underlying t = some (.slice e)) (he : P.underlying e = some .string) (hc : P.cellsOf e = 1)
    (h : DataW.trod enc P w base (fun _ => true) held fuel t [v] = some x) :
    ∃ A n c ts, v = .slice A n c ∧ RS tc 1 w w.heap.size A n ts ∧ n ≤ c ∧ c ≤ maxLen ∧ (∀ R, (∀ m ∈ x.1.weights P t, m ≤ R) → n * P.bytesOf e ≤ R) := by
  obtain ⟨A, n, c, ts, h1, h2, _, h4, h5, h6⟩ := open_recs tz (cl := tc) (s := 1) (fun _ => rfl) (by omega) (fun _ => True) ht hc (fun fu cs y hy hl => by
    match cs, hl with
    | [u], _ =>
      obtain ⟨s, e, _, _⟩ := DataW.trod_string he hy
      simp at e
      exact ⟨s, by rw [e]; rfl, trivial⟩) h
  exact ⟨A, n, c, ts, h1, h2, h4, h5, h6⟩
end
end Go.Proofs.Ytenhcpobncmedaa
