/- Contracts of slices.IndexFunc and slices.ContainsFunc with the two closures, of wrap.Last and ringref1.Last. -/
import Derived.Test.YtjcbnanajelpjaaWrA
namespace Go.Proofs.Ytjcbnanajelpjaa
open Go.RowKit
set_option maxHeartbeats 400000
set_option linter.unusedVariables false
set_option linter.unusedSimpArgs false
theorem clo65 (x m : Int) (g : Nat) (w : World) (hx : U32 x) (hm : U32 m) (hc : w.cell? ⟨g, 0, none⟩ = some (.int .u32 x)) :
    Calls Try.prog 65 #[.int .u32 m, .pointer (some ⟨g, 0, none⟩)] w fun e w' => e = .returned (.bool (decide (0 < farI x m))) ∧ w = w' := by
  go_enter Try.func65, Try.ntmps65
  go_wp2_with (go_at_call 15; refine (less_any x m _ hx hm).mono ?_; rintro e w1 ⟨rfl, rfl⟩)
  go_ret
  exact ⟨rfl, rfl⟩
theorem clo66 (x m : Int) (g : Nat) (w : World) (hx : U32 x) (hm : U32 m) (hc : w.cell? ⟨g, 0, none⟩ = some (.int .u32 x)) :
    Calls Try.prog 66 #[.int .u32 m, .pointer (some ⟨g, 0, none⟩)] w fun e w' => e = .returned (.bool (decide (0 < farI x m))) ∧ w = w' := by
  go_enter Try.func66, Try.ntmps66
  go_wp2_with (go_at_call 13; refine (refFar_any x m _ hx hm).mono ?_; rintro e w1 ⟨rfl, rfl⟩)
  go_ret
  exact ⟨rfl, rfl⟩
def anyB (x : Int) (xs : List Int) : Bool := xs.any fun m => decide (0 < farI x m)
theorem anyB_take (x : Int) (xs : List Int) (k : Nat) (h : k < xs.length) : anyB x (xs.take (k + 1)) = (anyB x (xs.take k) || decide (0 < farI x (xs.getD k 0))) := by
  unfold anyB
  rw [List.take_succ_eq_append_getElem h, List.any_append]
  simp [List.getD, List.getElem?_eq_getElem h]
theorem anyB_of (x : Int) (xs : List Int) (k : Nat) (h : k < xs.length) (hp : 0 < farI x (xs.getD k 0)) : anyB x xs = true := by
  unfold anyB
  rw [List.any_eq_true]
  refine ⟨xs[k], List.getElem_mem h, ?_⟩
  simpa [List.getD, List.getElem?_eq_getElem h] using hp
def IdxPost (x : Int) (xs : List Int) (w : World) (e : Ending) (w' : World) : Prop := (∃ k : Int, e = .returned (.int .i64 k) ∧ decide (0 ≤ k) = anyB x xs) ∧ w = w'
theorem find_at (p : Int → Bool) (xs : List Int) : ∀ (k : Nat), (∀ j, j < k → p (xs.getD j 0) = false) → k < xs.length → p (xs.getD k 0) = true → xs.find? p = some (xs.getD k 0) := by
  induction xs with
  | nil => intro k _ h; simp at h
  | cons a xs ih =>
    intro k h0 hk hp
    cases k with
    | zero => simp only [List.getD_cons_zero] at hp ⊢; rw [List.find?_cons_of_pos hp]
    | succ k =>
      have ha := h0 0 (by omega)
      simp only [List.getD_cons_zero] at ha
      rw [List.find?_cons_of_neg (by simp [ha])]
      exact ih k (fun j hj => by have := h0 (j + 1) (by omega); simpa using this) (by simpa using hk) (by simpa using hp)
theorem find_all (p : Int → Bool) (xs : List Int) (h : ∀ j, j < xs.length → p (xs.getD j 0) = false) : xs.find? p = none := by
  rw [List.find?_eq_none]
  intro x hx
  obtain ⟨i, hi, rfl⟩ := List.getElem_of_mem hx
  have := h i hi
  simpa [List.getD, List.getElem?_eq_getElem hi] using this
theorem good_next {p : Nat → Prop} {k : Nat} (h : ∀ j, j < k → p j) (hk : p k) : ∀ j, j < k + 1 → p j := fun j hj => by
  rcases Nat.lt_or_ge j k with hjk | hjk
  · exact h j hjk
  · obtain rfl : j = k := by omega
    exact hk
/-- P01.2. -/
def lastV (xs : List Int) : Int × Int := if xs.length = 0 then (0, 4) else match xs.find? (fun x => !anyB x xs) with | some x => (x, 0) | none => (0, 3)
theorem lastV_nil {xs : List Int} (h : xs.length = 0) : lastV xs = (0, 4) := by unfold lastV; rw [if_pos h]
theorem lastV_at {xs : List Int} {k : Nat} (h0 : ∀ j, j < k → anyB (xs.getD j 0) xs = true) (hk : k < xs.length) (hp : anyB (xs.getD k 0) xs = false) : lastV xs = (xs.getD k 0, 0) := by
  unfold lastV
  rw [if_neg (by omega), find_at (fun x => !anyB x xs) xs k (fun j hj => by simp only [h0 j hj, Bool.not_true]) hk (by simp only [hp, Bool.not_false])]
theorem lastV_none {xs : List Int} (h : xs.length ≠ 0) (h0 : ∀ j, j < xs.length → anyB (xs.getD j 0) xs = true) : lastV xs = (0, 3) := by
  unfold lastV
  rw [if_neg h, find_all (fun x => !anyB x xs) xs (fun j hj => by simp only [h0 j hj, Bool.not_true])]
def LastPost (w : World) (xs : List Int) (e : Ending) (w' : World) : Prop := e = .returned (.tuple #[.int .u32 (lastV xs).1, .int .i64 (lastV xs).2]) ∧ Below w.heap.size w w'
theorem LastPost.of {w w' : World} {xs : List Int} {a b : Int} (h : lastV xs = (a, b)) (hb : Below w.heap.size w w') : LastPost w xs (.returned (.tuple #[.int .u32 a, .int .i64 b])) w' := ⟨by rw [h], hb⟩
theorem idx65 (x : Int) (g : Nat) (A : Option Addr) (n c : Nat) (xs : List Int) (w : World) (B : Nat) (h : RI .u32 w B A n xs) (hn : n ≤ 9223372036854775807) (hx : U32 x) (hc : w.cell? ⟨g, 0, none⟩ = some (.int .u32 x)) :
    Calls Try.prog 78 #[.slice A n c, .func (.func 65) #[] #[.pointer (some ⟨g, 0, none⟩)]] w (IdxPost x xs w) := by
  have HL := Lib.hid h.len
  go_enter Try.func78, Try.ntmps78
  go_wp2
  go_loopw [8] (fun i wr => ∃ k : Nat, k ≤ n ∧ i = .int .i64 k ∧ anyB x (xs.take k) = false ∧ w = wr) (fun i _ => n - (intOf i).toNat)
  case atStart => exact ⟨0, by omega, rfl, rfl, rfl⟩
  case round =>
    obtain ⟨k, hk, rfl, hf, rfl⟩ := hrel
    have HF := Lib.hid hf
    clear hf
    by_cases hlt : k < n
    · obtain ⟨b, o, rfl, hb, c0, r0⟩ := h.at_ hlt
      have ru := u32_range r0
      have hT := Lib.hid (anyB_take x xs k (by rw [HL.out]; exact hlt))
      have hO := Lib.hid (anyB_of x xs k (by rw [HL.out]; exact hlt))
      generalize xs.getD k 0 = y at *
      clear r0
      by_cases hp : 0 < farI x y
      · go_wp2_with (go_at_call 65; refine (clo65 x y g _ hx ru hc).mono ?_; rintro e w1 ⟨rfl, rfl⟩)
        go_ret
        exact ⟨⟨(k : Int), rfl, by rw [hO.out hp]; simp⟩, rfl⟩
      · go_wp2_with (go_at_call 65; refine (clo65 x y g _ hx ru hc).mono ?_; rintro e w1 ⟨rfl, rfl⟩)
        go_roundw
        case rel => exact ⟨k + 1, by omega, by go_num, by rw [hT.out, HF.out]; simpa using hp, trivial⟩
        case measure => simp [intOf]; omega
    · have hE := Lib.hid HF.out
      rw [List.take_of_length_le (by rw [HL.out]; omega)] at hE
      go_wp2
      go_ret
      exact ⟨⟨-1, rfl, by rw [hE.out]; rfl⟩, rfl⟩
theorem has65 (x : Int) (g : Nat) (A : Option Addr) (n c : Nat) (xs : List Int) (w : World) (B : Nat) (h : RI .u32 w B A n xs) (hn : n ≤ 9223372036854775807) (hx : U32 x) (hc : w.cell? ⟨g, 0, none⟩ = some (.int .u32 x)) :
    Calls Try.prog 64 #[.slice A n c, .func (.func 65) #[] #[.pointer (some ⟨g, 0, none⟩)]] w fun e w' => e = .returned (.bool (anyB x xs)) ∧ w = w' := by
  go_enter Try.func64, Try.ntmps64
  go_wp2_with (go_at_call 78; refine (idx65 x g A n c xs _ B h hn hx hc).mono ?_; rintro e w1 ⟨⟨k, rfl, hk⟩, rfl⟩)
  go_ret
  exact ⟨rfl, rfl⟩
theorem last11 (A : Option Addr) (n c : Nat) (xs : List Int) (w : World) (h : RI .u32 w w.heap.size A n xs) (hn : n ≤ 9223372036854775807) : Calls Try.prog 11 #[.slice A n c] w (LastPost w xs) := by
  have HL := Lib.hid h.len
  have hmf : ∀ (fn : Fn) (first cap : Array Value) (w : World), (Instr.makeFunc fn first cap).run Try.prog w = .ok (.func fn first cap) w := fun _ _ _ _ => rfl
  by_cases h0 : n = 0
  · subst h0
    go_enter Try.func11, Try.ntmps11
    go_wp2
    go_ret2
    exact .of (lastV_nil HL.out) (Below.refl _ _)
  have h0' : ((n : Int) == 0) = false := by simp; omega
  go_enter Try.func11, Try.ntmps11
  go_wp2
  go_loopw [11] (fun i wr => ∃ k : Nat, k ≤ n ∧ i = .int .i64 k ∧ (∀ j, j < k → anyB (xs.getD j 0) xs = true) ∧ Below w.heap.size w wr) (fun i _ => n - (intOf i).toNat)
  case atStart => exact ⟨0, by omega, rfl, fun j hj => by omega, Below.refl _ _⟩
  case round =>
    obtain ⟨k, hk, rfl, hf, hbw⟩ := hrel
    have HF := Lib.hid hf
    clear hf
    by_cases hlt : k < n
    · have hh := h.below' hbw (Nat.le_refl _)
      obtain ⟨b, o, rfl, hb, c0, r0⟩ := hh.at_ hlt
      have ru := u32_range r0
      have hN := Lib.hid (fun hj => good_next (p := fun j => anyB (xs.getD j 0) xs = true) HF.out hj)
      have hAt := Lib.hid (lastV_at HF.out (by rw [HL.out]; exact hlt))
      generalize xs.getD k 0 = y at *
      clear r0
      have hh' := (hh.below' (Grow.alloc wr (.cells #[.int .u32 y] 22)) hbw.size)
      cases hp : anyB y xs
      · go_wp2_with (go_at_call 64; refine (has65 y wr.heap.size _ n c xs _ _ hh' hn ru (by simp [go_sem])).mono ?_; rintro e w1 ⟨rfl, rfl⟩; rw [hp])
        go_ret2
        exact .of (hAt.out hp) (hbw.alloc hbw.size _)
      · go_wp2_with (go_at_call 64; refine (has65 y wr.heap.size _ n c xs _ _ hh' hn ru (by simp [go_sem])).mono ?_; rintro e w1 ⟨rfl, rfl⟩; rw [hp])
        go_roundw
        case rel => exact ⟨k + 1, by omega, by go_num, hN.out hp, hbw.alloc hbw.size _⟩
        case measure => simp [intOf]; omega
    · have hfin := Lib.hid (lastV_none (by rw [HL.out]; exact h0) (fun j hj => HF.out j (by rw [HL.out] at hj; omega)))
      go_wp2
      go_ret2
      exact .of hfin.out hbw
theorem idx66 (x : Int) (g : Nat) (A : Option Addr) (n c : Nat) (xs : List Int) (w : World) (B : Nat) (h : RI .u32 w B A n xs) (hn : n ≤ 9223372036854775807) (hx : U32 x) (hc : w.cell? ⟨g, 0, none⟩ = some (.int .u32 x)) :
    Calls Try.prog 78 #[.slice A n c, .func (.func 66) #[] #[.pointer (some ⟨g, 0, none⟩)]] w (IdxPost x xs w) := by
  have HL := Lib.hid h.len
  go_enter Try.func78, Try.ntmps78
  go_wp2
  go_loopw [8] (fun i wr => ∃ k : Nat, k ≤ n ∧ i = .int .i64 k ∧ anyB x (xs.take k) = false ∧ w = wr) (fun i _ => n - (intOf i).toNat)
  case atStart => exact ⟨0, by omega, rfl, rfl, rfl⟩
  case round =>
    obtain ⟨k, hk, rfl, hf, rfl⟩ := hrel
    have HF := Lib.hid hf
    clear hf
    by_cases hlt : k < n
    · obtain ⟨b, o, rfl, hb, c0, r0⟩ := h.at_ hlt
      have ru := u32_range r0
      have hT := Lib.hid (anyB_take x xs k (by rw [HL.out]; exact hlt))
      have hO := Lib.hid (anyB_of x xs k (by rw [HL.out]; exact hlt))
      generalize xs.getD k 0 = y at *
      clear r0
      by_cases hp : 0 < farI x y
      · go_wp2_with (go_at_call 66; refine (clo66 x y g _ hx ru hc).mono ?_; rintro e w1 ⟨rfl, rfl⟩)
        go_ret
        exact ⟨⟨(k : Int), rfl, by rw [hO.out hp]; simp⟩, rfl⟩
      · go_wp2_with (go_at_call 66; refine (clo66 x y g _ hx ru hc).mono ?_; rintro e w1 ⟨rfl, rfl⟩)
        go_roundw
        case rel => exact ⟨k + 1, by omega, by go_num, by rw [hT.out, HF.out]; simpa using hp, trivial⟩
        case measure => simp [intOf]; omega
    · have hE := Lib.hid HF.out
      rw [List.take_of_length_le (by rw [HL.out]; omega)] at hE
      go_wp2
      go_ret
      exact ⟨⟨-1, rfl, by rw [hE.out]; rfl⟩, rfl⟩
theorem has66 (x : Int) (g : Nat) (A : Option Addr) (n c : Nat) (xs : List Int) (w : World) (B : Nat) (h : RI .u32 w B A n xs) (hn : n ≤ 9223372036854775807) (hx : U32 x) (hc : w.cell? ⟨g, 0, none⟩ = some (.int .u32 x)) :
    Calls Try.prog 64 #[.slice A n c, .func (.func 66) #[] #[.pointer (some ⟨g, 0, none⟩)]] w fun e w' => e = .returned (.bool (anyB x xs)) ∧ w = w' := by
  go_enter Try.func64, Try.ntmps64
  go_wp2_with (go_at_call 78; refine (idx66 x g A n c xs _ B h hn hx hc).mono ?_; rintro e w1 ⟨⟨k, rfl, hk⟩, rfl⟩)
  go_ret
  exact ⟨rfl, rfl⟩
theorem last12 (A : Option Addr) (n c : Nat) (xs : List Int) (w : World) (h : RI .u32 w w.heap.size A n xs) (hn : n ≤ 9223372036854775807) : Calls Try.prog 12 #[.slice A n c] w (LastPost w xs) := by
  have HL := Lib.hid h.len
  have hmf : ∀ (fn : Fn) (first cap : Array Value) (w : World), (Instr.makeFunc fn first cap).run Try.prog w = .ok (.func fn first cap) w := fun _ _ _ _ => rfl
  by_cases h0 : n = 0
  · subst h0
    go_enter Try.func12, Try.ntmps12
    go_wp2
    go_ret2
    exact .of (lastV_nil HL.out) (Below.refl _ _)
  have h0' : ((n : Int) == 0) = false := by simp; omega
  go_enter Try.func12, Try.ntmps12
  go_wp2
  go_loopw [11] (fun i wr => ∃ k : Nat, k ≤ n ∧ i = .int .i64 k ∧ (∀ j, j < k → anyB (xs.getD j 0) xs = true) ∧ Below w.heap.size w wr) (fun i _ => n - (intOf i).toNat)
  case atStart => exact ⟨0, by omega, rfl, fun j hj => by omega, Below.refl _ _⟩
  case round =>
    obtain ⟨k, hk, rfl, hf, hbw⟩ := hrel
    have HF := Lib.hid hf
    clear hf
    by_cases hlt : k < n
    · have hh := h.below' hbw (Nat.le_refl _)
      obtain ⟨b, o, rfl, hb, c0, r0⟩ := hh.at_ hlt
      have ru := u32_range r0
      have hN := Lib.hid (fun hj => good_next (p := fun j => anyB (xs.getD j 0) xs = true) HF.out hj)
      have hAt := Lib.hid (lastV_at HF.out (by rw [HL.out]; exact hlt))
      generalize xs.getD k 0 = y at *
      clear r0
      have hh' := (hh.below' (Grow.alloc wr (.cells #[.int .u32 y] 22)) hbw.size)
      cases hp : anyB y xs
      · go_wp2_with (go_at_call 64; refine (has66 y wr.heap.size _ n c xs _ _ hh' hn ru (by simp [go_sem])).mono ?_; rintro e w1 ⟨rfl, rfl⟩; rw [hp])
        go_ret2
        exact .of (hAt.out hp) (hbw.alloc hbw.size _)
      · go_wp2_with (go_at_call 64; refine (has66 y wr.heap.size _ n c xs _ _ hh' hn ru (by simp [go_sem])).mono ?_; rintro e w1 ⟨rfl, rfl⟩; rw [hp])
        go_roundw
        case rel => exact ⟨k + 1, by omega, by go_num, hN.out hp, hbw.alloc hbw.size _⟩
        case measure => simp [intOf]; omega
    · have hfin := Lib.hid (lastV_none (by rw [HL.out]; exact h0) (fun j hj => HF.out j (by rw [HL.out] at hj; omega)))
      go_wp2
      go_ret2
      exact .of hfin.out hbw
end Go.Proofs.Ytjcbnanajelpjaa
