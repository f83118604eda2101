/- Contracts of slices.Delete of one, at []int. -/
import Derived.Test.YtenhcpobncmedaaSeG
import Derived.Test.YtenhcpobncmedaaDel
import Derived.Deep.RegionLaw
namespace Go.Proofs.Ytenhcpobncmedaa
open Go.RowKit
set_option maxHeartbeats 400000
set_option linter.unusedVariables false
set_option linter.unusedSimpArgs false
theorem Try.infoI : (Try.prog.info? 3).map (fun i => (i.zero, i.size, i.bytes)) = some (some (.int .i64 0), 1, 8) := by kernel_rfl
theorem eraseIdx_parts {α : Type} (xs : List α) (i : Nat) : xs.take i ++ xs.drop (i + 1) = xs.eraseIdx i := (List.eraseIdx_eq_take_drop_succ xs i).symm
def DelPost (w : World) (base g o n c i : Nat) (xs : List Value) (e : Ending) (w' : World) : Prop :=
  e = .returned (.slice (some ⟨g, o, none⟩) (n - 1) c) ∧ Row w' base 3 1 (.slice (some ⟨g, o, none⟩) (n - 1) c) (n - 1) (xs.eraseIdx i) ∧ Fr (fun k => k = g) w w'
set_option maxHeartbeats 1000000 in
set_option maxRecDepth 100000 in
theorem delete_any (g o n c i : Nat) (xs : List Value) (w : World) (base : Nat) (h : Row w base 3 1 (.slice (some ⟨g, o, none⟩) n c) n xs) (hone : ∀ u ∈ xs, u.oneCell' = true) (hi : i < n) (hm : n ≤ c ∧ c ≤ 9223372036854775807) :
    Calls Try.prog 119 #[.slice (some ⟨g, o, none⟩) n c, .int .i64 i, .int .i64 ((i : Int) + 1)] w (DelPost w base g o n c i xs) := by
  obtain ⟨i0, hi0, hz0, hz1, hz2⟩ := info_parts Try.infoI
  have hE := Lib.hid (eraseIdx_parts xs i)
  have ht := h.drew.take (k := i) (by omega)
  rw [Nat.mul_one] at ht
  have hr := (h.drew.cut (k := i + 1) (by omega)).reads
  have hz3 : ∀ w, (zeroValue 3).run Try.prog w = .ok (.int .i64 0) w := zero3
  have hn := Lib.hid (show i + (n - (i + 1)) = n - 1 by omega)
  have s1 := Lib.hid (fun u (hu : u ∈ xs.drop (i + 1)) => hone u (List.mem_of_mem_drop hu))
  have hcl := fun (w1 : World) hr1 => run_clear_row (P := Try.prog) w1 base 45 3 (.int .i64 0) 1 Try.underlying45 hz3 rfl (by decide) (by simp [Value.cells, Value.oneCell']) g o (i + (n - (i + 1))) c (n - (i + (n - (i + 1)))) (c - (i + (n - (i + 1)))) (xs.take i ++ xs.drop (i + 1)) hr1 (by omega) (by omega)
  have q0 : ((i : Int) == (i : Int) + 1) = false := by simp; omega
  have q1 : (i : Int) + 1 ≤ n := by omega
  have q2 : (i : Int) + 1 ≤ c := by omega
  have q3 : (i : Int) ≤ c := by omega
  have q4 : ¬ c = i + (n - (i + 1)) := by omega
  have q5 : i + (n - (i + 1)) ≤ n := by omega
  have q6 : n ≤ c := hm.1
  have hfin : ∀ w1 w2, w.drew.grownBy w1 (some g) → w1.grownBy w2 (some g) → Fr (fun k => k = g) w w2 := fun w1 w2 h1 h2 => (((Fr.refl _ w).drew).grown h1 (fun k e _ => by injection e with e; exact e.symm)).grown h2 (fun k e _ => by injection e with e; exact e.symm)
  have q7 : (0 : Int) ≤ (i : Int) + 1 := by omega
  have q8 : (i : Int) ≤ (i : Int) + 1 := by omega
  have q9 : i + (n - (i + 1)) ≤ c := by omega
  have Q9 := Lib.hid q9
  by_cases hc : c = i + 1
  case pos =>
    obtain rfl : n = i + 1 := by omega
    subst hc
    have hd : xs.drop (i + 1) = [] := List.drop_eq_nil_of_le (by have := h.1; omega)
    have hr0 : Reads w.drew 0 1 (some ⟨g, o, none⟩) 0 [] := ⟨rfl, fun h => absurd h (by omega)⟩
    have HD := Lib.hid hd
    rw [hd] at hcl hE
    simp only [Nat.sub_self, Nat.add_zero, List.append_nil, Nat.add_sub_cancel_left, Nat.mul_one] at hcl hE
    clear hd hn q9 Q9 q5 hr s1
    go_enter Try.func119, Try.ntmps119
    go_wp2_with fail
    go_region_law (refine step_append_inrow rfl (.tmp 22) (.tmp 25) 45 rfl base 3 i0 1 Try.underlying45 hi0 hz1 (by decide) g o i (i + 1) _ (by simp [Act.eval, Act.put]) ht 0 (some ⟨g, o, none⟩) 0 0 [] (by simp [Act.eval, Act.put]) hr0 (by simp) (by omega) ?_; intro w1 hr1 hg1)
    simp only [Nat.add_zero, List.append_nil] at hr1
    obtain ⟨w2, hrun, hr2, hg2⟩ := hcl w1 hr1
    have hf := Lib.hid (hfin w1 w2 hg1 hg2)
    clear hcl hfin hr1 hg1 hg2
    go_wp2
    go_ret
    exact ⟨by simp, by rw [← hE.out]; simpa using hr2, hf.out⟩
  case neg =>
    simp only [hc, if_false, Option.map_some, add_plain, Nat.mul_one] at hr hcl
    go_enter Try.func119, Try.ntmps119
    go_wp2_with fail
    go_region_law (refine step_append_inrow rfl (.tmp 22) (.tmp 25) 45 rfl base 3 i0 1 Try.underlying45 hi0 hz1 (by decide) g o i c _ (by simp [Act.eval, Act.put]) ht _ (some ⟨g, o + (i + 1), none⟩) (n - (i + 1)) (c - (i + 1)) _ (by simp [Act.eval, Act.put]) hr s1.out Q9.out ?_; intro w1 hr1 hg1)
    obtain ⟨w2, hrun, hr2, hg2⟩ := hcl w1 hr1
    have hf := Lib.hid (hfin w1 w2 hg1 hg2)
    clear hcl hfin hr1 hg1 hg2
    go_wp2
    go_ret
    exact ⟨by rw [hn.out]; rfl, by rw [← hE.out, ← hn.out]; exact hr2, hf.out⟩
end Go.Proofs.Ytenhcpobncmedaa
