/- Contracts of List, First, Bits and New of prio.Prio. -/
import Derived.Test.YtenhcpobncmedaaPrE
namespace Go.Proofs.Ytenhcpobncmedaa
open Go.RowKit
set_option maxHeartbeats 400000
set_option linter.unusedVariables false
set_option linter.unusedSimpArgs false
set_option maxRecDepth 100000 in
theorem list_bad (g : Nat) (v : Int) (w : World) (h : ¬ (0 ≤ v ∧ v < 8)) :
    Calls Try.prog 30 #[.pointer (some ⟨g, 0, none⟩), .int .i64 v] w fun e w' => e = .returned (.tuple #[.slice none 0 0, .int .i64 1]) ∧ w = w' := by
  by_cases h3 : v < 0
  · have d3 : decide (v < 0) = true := by simpa using h3
    clear h h3
    go_enter Try.func30, Try.ntmps30
    go_wp2
    go_ret2
    exact ⟨rfl, rfl⟩
  have d3 : decide (v < 0) = false := by simpa using h3
  have d4 : decide (8 ≤ v) = true := by simp; omega
  clear h h3
  go_enter Try.func30, Try.ntmps30
  go_wp2
  go_ret2
  exact ⟨rfl, rfl⟩
def ListPost (w : World) (xs : List Int) (e : Ending) (w' : World) : Prop := ∃ A c, e = .returned (.tuple #[.slice A xs.length c, .int .i64 0]) ∧ RD w' w'.heap.size A xs.length xs ∧ xs.length ≤ 9223372036854775807 ∧ Below w.heap.size w w'
set_option maxRecDepth 100000 in
theorem list_any (g v : Nat) (vs : Nat → Value) (F : Nat → List Int) (w : World) (B : Nat) (h : PSt w B g vs F) (hv : v < 8) (hl : (F v).length ≤ 1000) :
    Calls Try.prog 30 #[.pointer (some ⟨g, 0, none⟩), .int .i64 v] w (ListPost w (F v)) := by
  have hcv := Arr.cell h hv
  obtain ⟨A, c, hvv, hc1, hc2⟩ := (h.row v hv).shape
  have hrow := h.row v hv
  rw [hvv] at hcv hrow
  rw [show ([Value.int .u32 (maskF F)].length) = 1 from rfl] at hcv
  have hlt := h.blk.lt
  have d3 : decide ((v : Int) < 0) = false := by simp
  have d4 : decide (8 ≤ (v : Int)) = false := by simp; omega
  have hv8 : (v : Int) < 8 := by omega
  have hv0 : (0 : Int) ≤ v := by omega
  have HC := Lib.hid (clone_any A (F v).length c (F v) w _ (RD.of_row hrow) (Nat.le_refl _) (by omega))
  unfold ClonePost at HC
  clear hrow hvv
  generalize hL : F v = L at *
  clear hL
  generalize hl9 : L.length = l at *
  have HL9 := Lib.hid hl9
  clear hl9
  go_enter Try.func30, Try.ntmps30
  go_wp2_with fail
  refine HC.out.mono ?_
  rintro e w' ⟨v1, rfl, hr, hb⟩
  obtain ⟨A1, c1, rfl, _, h2⟩ := hr.shape
  go_wp2
  go_ret2
  exact ⟨A1, c1, by rw [HL9.out]; rfl, by rw [HL9.out]; exact RD.of_row hr, by rw [HL9.out]; omega, hb⟩
theorem new18 (w : World) : Calls Try.prog 18 #[] w fun e w' => e = .returned (.pointer (some ⟨w.heap.size, 0, none⟩)) ∧ w' = w.alloc (.cells (arrC [.int .u32 0] 8 (fun _ => .slice none 0 0) []) 123) := by
  go_enter Try.func18, Try.ntmps18
  go_wp2
  go_ret
  exact ⟨rfl, rfl⟩
theorem mask_none : maskF (fun _ => []) = 0 := rfl
theorem pst_new (w : World) (B : Nat) (hB : B ≤ w.heap.size) : PSt (w.alloc (.cells (arrC [.int .u32 0] 8 (fun _ => .slice none 0 0) []) 123)) B w.heap.size (fun _ => .slice none 0 0) (fun _ => []) :=
  ⟨Blk.new _ _ _, fun i _ => Row.nil _ _ _ _, fun i _ => by simp [Value.ownBlock], fun i j k _ _ _ => by simp [Value.ownBlock], hB⟩
theorem mask_rng (p : Nat → Bool) : ∀ n, n ≤ 8 → 0 ≤ maskB p n ∧ maskB p n < 2 ^ n
  | 0, _ => by simp [maskB]
  | n + 1, h => by
    obtain ⟨h1, h2⟩ := mask_rng p n (by omega)
    have h3 : (2 : Int) ^ (n + 1) = 2 ^ n * 2 := Int.pow_succ 2 n
    simp only [maskB]
    split <;> omega
set_option maxRecDepth 100000 in
theorem bits20 (g : Nat) (vs : Nat → Value) (F : Nat → List Int) (w : World) (B : Nat) (h : PSt w B g vs F) :
    Calls Try.prog 20 #[.pointer (some ⟨g, 0, none⟩)] w fun e w' => e = .returned (.int .i64 (maskF F)) ∧ w = w' := by
  have hc0 := h.bits
  have hlt := h.blk.lt
  have hr := mask_rng (full F) 8 (by omega)
  have hr' : 0 ≤ maskF F ∧ maskF F < 256 := hr
  clear hr
  generalize maskF F = m at *
  go_enter Try.func20, Try.ntmps20
  go_wp2
  go_ret
  exact ⟨rfl, rfl⟩
/-- The highest queue that has somebody. -/
def topN (p : Nat → Bool) : Nat → Option Nat
  | 0 => none
  | k + 1 => if p k = true then some k else topN p k
theorem topN_congr {p q : Nat → Bool} : ∀ {n : Nat}, (∀ i, i < n → p i = q i) → topN p n = topN q n
  | 0, _ => rfl
  | n + 1, h => by simp only [topN]; rw [topN_congr (fun i hi => h i (by omega)), h n (by omega)]
theorem topN_some {p : Nat → Bool} : ∀ {n k : Nat}, topN p n = some k → k < n ∧ p k = true
  | 0, k, h => by simp [topN] at h
  | n + 1, k, h => by
    simp only [topN] at h
    split at h
    · injection h with h; subst h; exact ⟨by omega, by assumption⟩
    · obtain ⟨h1, h2⟩ := topN_some h; exact ⟨by omega, h2⟩
def topI (p : Nat → Bool) : Int := match topN p 8 with | some k => k | none => -1
def len8 (x : Int) : Int := if x = 0 then 0 else if x < 2 then 1 else if x < 4 then 2 else if x < 8 then 3 else if x < 16 then 4 else if x < 32 then 5 else if x < 64 then 6 else if x < 128 then 7 else 8
instance decForallProp {p : Prop} [Decidable p] {Q : p → Prop} [∀ h, Decidable (Q h)] : Decidable (∀ h, Q h) :=
  if hp : p then (if hq : Q hp then isTrue (fun _ => hq) else isFalse (fun h => hq (h hp))) else isTrue (fun h => absurd h hp)
set_option maxRecDepth 100000 in
theorem len88 (n : Nat) (w : World) (hx : n < 256) : Calls Try.prog 88 #[.int .u32 n] w fun e w' => e = .returned (.int .i64 (len8 n)) ∧ w = w' := by
  have d1 : decide (65536 ≤ (n : Int)) = false := by simp; omega
  have d2 : decide (256 ≤ (n : Int)) = false := by simp; omega
  have d3 : n % 256 = n := Nat.mod_eq_of_lt hx
  go_enter Try.func88, Try.ntmps88
  go_wp2
  go_ret
  refine ⟨sl_int ?_, rfl⟩
  clear d1 d2 d3
  obtain ⟨m, rfl⟩ : ∃ m : Fin 256, m.val = n := ⟨⟨n, hx⟩, rfl⟩
  revert m
  decide +kernel
theorem len_key : ∀ (b0 b1 b2 b3 b4 b5 b6 b7 : Bool), len8 (maskB (lst8 b0 b1 b2 b3 b4 b5 b6 b7) 8) = topI (lst8 b0 b1 b2 b3 b4 b5 b6 b7) + 1 ∧ (maskB (lst8 b0 b1 b2 b3 b4 b5 b6 b7) 8 = 0 ↔ topI (lst8 b0 b1 b2 b3 b4 b5 b6 b7) = -1) := by decide +kernel
theorem len_mask (p : Nat → Bool) : len8 (maskB p 8) = topI p + 1 ∧ (maskB p 8 = 0 ↔ topI p = -1) := by
  have e : topI p = topI (lst8 (p 0) (p 1) (p 2) (p 3) (p 4) (p 5) (p 6) (p 7)) := by unfold topI; rw [topN_congr (lst8_of p)]
  rw [maskB_congr (lst8_of p), e]
  exact len_key _ _ _ _ _ _ _ _
/-- Who goes first, and where. -/
def firstX (F : Nat → List Int) : Int := match topN (full F) 8 with | some k => (F k).getD 0 0 | none => 0
def firstY (F : Nat → List Int) : Int := match topN (full F) 8 with | some k => k | none => 0
def firstE (F : Nat → List Int) : Int := match topN (full F) 8 with | some _ => 0 | none => 4
set_option maxRecDepth 100000 in
theorem first29 (g : Nat) (vs : Nat → Value) (F : Nat → List Int) (w : World) (B : Nat) (h : PSt w B g vs F) :
    Calls Try.prog 29 #[.pointer (some ⟨g, 0, none⟩)] w fun e w' => e = .returned (.tuple #[.int .i64 (firstX F), .int .i64 (firstY F), .int .i64 (firstE F)]) ∧ w = w' := by
  have hc0 := h.bits
  have hlt := h.blk.lt
  have hr : 0 ≤ maskF F ∧ maskF F < 256 := mask_rng (full F) 8 (by omega)
  obtain ⟨hl1, hl2⟩ := len_mask (full F)
  have hl1 : len8 (maskF F) = topI (full F) + 1 := hl1
  have hl2 : maskF F = 0 ↔ topI (full F) = -1 := hl2
  unfold firstX firstY firstE
  unfold topI at hl1 hl2
  cases ht : topN (full F) 8 with
  | none =>
    rw [ht] at hl2
    have hm : maskF F = 0 := hl2.2 rfl
    rw [hm] at hc0
    clear hl1 hl2 hm hr h
    go_enter Try.func29, Try.ntmps29
    go_wp2
    go_ret3
    exact ⟨rfl, rfl⟩
  | some k =>
    rw [ht] at hl1 hl2
    obtain ⟨hk, hfk⟩ := topN_some ht
    have hcv := Arr.cell h hk
    obtain ⟨A, c, hvv, hc1, hc2⟩ := (h.row k hk).shape
    have hrow := h.row k hk
    rw [hvv] at hcv hrow
    rw [show ([Value.int .u32 (maskF F)].length) = 1 from rfl] at hcv
    have hfl : 0 < (F k).length := by unfold full at hfk; simpa using hfk
    obtain ⟨b, o, rfl, hb, hx⟩ := (RD.of_row hrow).at_ hfl
    rw [Nat.add_zero] at hx
    obtain ⟨m, hm⟩ : ∃ m : Nat, maskF F = m := ⟨(maskF F).toNat, by omega⟩
    dsimp only at hl1 hl2
    rw [hm] at hc0 hr hl1 hl2
    have h0 : ((m : Int) == 0) = false := beq_false_of_ne (fun e => by have := hl2.1 e; omega)
    have HL := Lib.hid (len88 m w (by omega))
    rw [hl1] at HL
    have hk8 : (k : Int) < 8 := by omega
    have hk0 : (0 : Int) ≤ k := by omega
    have hkk : (k : Int) + 1 - 1 = k := by omega
    clear hl1 hl2 hvv hrow h hfk hm hr
    dsimp only
    generalize (F k).getD 0 0 = y at *
    generalize (F k).length = l at *
    go_enter Try.func29, Try.ntmps29
    go_wp2_with fail
    refine HL.out.mono ?_
    rintro e w' ⟨rfl, rfl⟩
    go_wp2
    go_ret3
    exact ⟨rfl, rfl⟩
end Go.Proofs.Ytenhcpobncmedaa
