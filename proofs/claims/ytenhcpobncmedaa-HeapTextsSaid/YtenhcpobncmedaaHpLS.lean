/- slices.Delete of one pair (keys of type ByteArray). -/
import Derived.Test.YtenhcpobncmedaaHpKS
namespace Go.Proofs.Ytenhcpobncmedaa.HS
open Go.RowKit
set_option maxHeartbeats 400000
set_option linter.unusedVariables false
set_option linter.unusedSimpArgs false
theorem infoP : (Try.prog.info? 143).map (fun i => (i.zero, i.size, i.bytes)) = some (some (.agg #[.int .i64 0, .string ⟨#[]⟩]), 2, 24) := by kernel_rfl
theorem pc_one (l : List (Int × ByteArray)) : ∀ u ∈ l.flatMap pc, u.oneCell' = true := by
  intro u hu
  obtain ⟨p, _, hp⟩ := List.mem_flatMap.1 hu
  simp [pc] at hp
  rcases hp with rfl | rfl <;> rfl
theorem pc_take : ∀ (l : List (Int × ByteArray)) (i : Nat), (l.flatMap pc).take (i * 2) = (l.take i).flatMap pc
  | [], i => by simp
  | p :: l, 0 => by simp
  | p :: l, i + 1 => by
    have ih := pc_take l i
    have e : (i + 1) * 2 = i * 2 + 1 + 1 := by omega
    simp only [List.flatMap_cons, pc, List.cons_append, List.nil_append, List.take_succ_cons, e]
    exact congrArg _ (congrArg _ ih)
theorem pc_drop : ∀ (l : List (Int × ByteArray)) (i : Nat), (l.flatMap pc).drop (i * 2) = (l.drop i).flatMap pc
  | [], i => by simp
  | p :: l, 0 => by simp
  | p :: l, i + 1 => by
    have ih := pc_drop l i
    have e : (i + 1) * 2 = i * 2 + 1 + 1 := by omega
    simp only [List.flatMap_cons, pc, List.cons_append, List.nil_append, List.drop_succ_cons, e]
    exact ih
theorem erase_pc (l : List (Int × ByteArray)) (i : Nat) : (l.flatMap pc).take (i * 2) ++ (l.flatMap pc).drop ((i + 1) * 2) = (l.eraseIdx i).flatMap pc := by
  rw [pc_take, pc_drop, List.eraseIdx_eq_take_drop_succ, List.flatMap_append]
def DelPost (w : World) (base g o n c i : Nat) (l : List (Int × ByteArray)) (e : Ending) (w' : World) : Prop :=
  e = .returned (.slice (some ⟨g, o, none⟩) (n - 1) c) ∧ Row w' base 143 2 (.slice (some ⟨g, o, none⟩) (n - 1) c) (n - 1) ((l.eraseIdx i).flatMap pc) ∧ Fr (fun k => k = g) w w'
set_option maxHeartbeats 1000000 in
set_option maxRecDepth 100000 in
theorem delete105 (g o n c i : Nat) (l : List (Int × ByteArray)) (w : World) (base : Nat) (h : Row w base 143 2 (.slice (some ⟨g, o, none⟩) n c) n (l.flatMap pc)) (hi : i < n) (hm : n ≤ c ∧ c ≤ 9223372036854775807) :
    Calls Try.prog 105 #[.slice (some ⟨g, o, none⟩) n c, .int .i64 i, .int .i64 ((i : Int) + 1)] w (DelPost w base g o n c i l) := by
  obtain ⟨i0, hi0, hz0, hz1, hz2⟩ := info_parts infoP
  have hone := pc_one l
  have hE := Lib.hid (erase_pc l i)
  generalize hxs : l.flatMap pc = xs at *
  have HXS := Lib.hid hxs
  clear hxs
  have ht := h.drew.take (k := i) (by omega)
  have hr := (h.drew.cut (k := i + 1) (by omega)).reads
  have hz3 : ∀ w, (zeroValue 143).run Try.prog w = .ok (.agg #[.int .i64 0, .string ⟨#[]⟩]) w := fun w => by kernel_rfl
  have hn := Lib.hid (show i + (n - (i + 1)) = n - 1 by omega)
  have s1 := Lib.hid (fun u (hu : u ∈ xs.drop ((i + 1) * 2)) => hone u (List.mem_of_mem_drop hu))
  have hcl := fun (w1 : World) hr1 => run_clear_row (P := Try.prog) w1 base 140 143 (.agg #[.int .i64 0, .string ⟨#[]⟩]) 2 Try.underlying140 hz3 rfl (by decide) (by simp [Value.cells, Value.oneCell']) g o (i + (n - (i + 1))) c (n - (i + (n - (i + 1)))) (c - (i + (n - (i + 1)))) (xs.take (i * 2) ++ xs.drop ((i + 1) * 2)) hr1 (by omega) (by omega)
  have q0 : ((i : Int) == (i : Int) + 1) = false := by simp; omega
  have q1 : (i : Int) + 1 ≤ n := by omega
  have q2 : (i : Int) + 1 ≤ c := by omega
  have q3 : (i : Int) ≤ c := by omega
  have q4 : ¬ c = i + (n - (i + 1)) := by omega
  have q5 : i + (n - (i + 1)) ≤ n := by omega
  have q6 : n ≤ c := hm.1
  have hfin : ∀ w1 w2, w.drew.grownBy w1 (some g) → w1.grownBy w2 (some g) → Fr (fun k => k = g) w w2 := fun w1 w2 h1 h2 => (((Fr.refl _ w).drew).grown h1 (fun k e _ => by injection e with e; exact e.symm)).grown h2 (fun k e _ => by injection e with e; exact e.symm)
  have q7 : (0 : Int) ≤ (i : Int) + 1 := by omega
  have q8 : (i : Int) ≤ (i : Int) + 1 := by omega
  have q9 : i + (n - (i + 1)) ≤ c := by omega
  have Q9 := Lib.hid q9
  by_cases hc : c = i + 1
  case pos =>
    obtain rfl : n = i + 1 := by omega
    subst hc
    have hd : xs.drop ((i + 1) * 2) = [] := List.drop_eq_nil_of_le (by have := h.1; omega)
    have hr0 : Reads w.drew 0 2 (some ⟨g, o, none⟩) 0 [] := ⟨rfl, fun h => absurd h (by omega)⟩
    have HD := Lib.hid hd
    rw [hd] at hcl hE
    simp only [Nat.sub_self, Nat.add_zero, List.append_nil, Nat.add_sub_cancel_left, Nat.mul_one] at hcl hE
    clear hd hn q9 Q9 q5 hr s1
    go_enter Try.func105, Try.ntmps105
    go_wp2_with fail
    go_region_law (refine step_append_inrow rfl (.tmp 22) (.tmp 25) 140 rfl base 143 i0 2 Try.underlying140 hi0 hz1 (by decide) g o i (i + 1) _ (by simp [Act.eval, Act.put]) ht 0 (some ⟨g, o, none⟩) 0 0 [] (by simp [Act.eval, Act.put]) hr0 (by simp) (by omega) ?_; intro w1 hr1 hg1)
    simp only [Nat.add_zero, List.append_nil] at hr1
    obtain ⟨w2, hrun, hr2, hg2⟩ := hcl w1 hr1
    have hf := Lib.hid (hfin w1 w2 hg1 hg2)
    clear hcl hfin hr1 hg1 hg2
    go_wp2
    go_ret
    exact ⟨by simp, by rw [← hE.out]; simpa using hr2, hf.out⟩
  case neg =>
    simp only [hc, if_false, Option.map_some, add_plain] at hr hcl
    go_enter Try.func105, Try.ntmps105
    go_wp2_with fail
    go_region_law (refine step_append_inrow rfl (.tmp 22) (.tmp 25) 140 rfl base 143 i0 2 Try.underlying140 hi0 hz1 (by decide) g o i c _ (by simp [Act.eval, Act.put]) ht _ (some ⟨g, o + (i + 1) * 2, none⟩) (n - (i + 1)) (c - (i + 1)) _ (by simp [Act.eval, Act.put]) hr s1.out Q9.out ?_; intro w1 hr1 hg1)
    obtain ⟨w2, hrun, hr2, hg2⟩ := hcl w1 hr1
    have hf := Lib.hid (hfin w1 w2 hg1 hg2)
    clear hcl hfin hr1 hg1 hg2
    go_wp2
    go_ret
    exact ⟨by rw [hn.out]; rfl, by rw [← hE.out, ← hn.out]; exact hr2, hf.out⟩
end Go.Proofs.Ytenhcpobncmedaa.HS
