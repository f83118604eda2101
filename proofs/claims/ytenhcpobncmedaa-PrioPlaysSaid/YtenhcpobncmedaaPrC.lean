/- Contracts of prio's 'at', and of ringref1's Of: in which queue a task is. -/
import Derived.Test.YtenhcpobncmedaaPrA
import Derived.Test.YtenhcpobncmedaaPrB
namespace Go.Proofs.Ytenhcpobncmedaa
open Go.RowKit
set_option maxHeartbeats 400000
set_option linter.unusedVariables false
set_option linter.unusedSimpArgs false
/-- The first queue that has a task; -1 if there is none. -/
def ofI (F : Nat → List Int) (t : Int) : Int := match (List.range 8).findIdx? (fun i => (F i).contains t) with | some i => i | none => -1
theorem ofI_at {F : Nat → List Int} {t : Int} {k : Nat} (hk : k < 8) (h : (F k).contains t = true) (hn : ∀ j, j < k → (F j).contains t = false) : ofI F t = k := by
  unfold ofI
  have : (List.range 8).findIdx? (fun i => (F i).contains t) = some k := by
    rw [List.findIdx?_eq_some_iff_getElem]
    refine ⟨by simpa using hk, by simpa using h, fun j hj => ?_⟩
    have := hn j hj
    simp at this ⊢
    exact this
  rw [this]
theorem ofI_none {F : Nat → List Int} {t : Int} (hn : ∀ j, j < 8 → (F j).contains t = false) : ofI F t = -1 := by
  unfold ofI
  have : (List.range 8).findIdx? (fun i => (F i).contains t) = none := by
    rw [List.findIdx?_eq_none_iff]
    intro i hi
    exact hn i (by simpa using hi)
  rw [this]
theorem ofI_cases (F : Nat → List Int) (t : Int) : (ofI F t = -1 ∧ ∀ j, j < 8 → (F j).contains t = false) ∨ ∃ k : Nat, k < 8 ∧ ofI F t = k ∧ (F k).contains t = true ∧ ∀ j, j < k → (F j).contains t = false := by
  unfold ofI
  cases h : (List.range 8).findIdx? (fun i => (F i).contains t) with
  | none =>
    rw [List.findIdx?_eq_none_iff] at h
    exact .inl ⟨rfl, fun j hj => h j (by simpa using hj)⟩
  | some k =>
    obtain ⟨h1, h2, h3⟩ := List.findIdx?_eq_some_iff_getElem.1 h
    refine .inr ⟨k, by simpa using h1, rfl, by simpa using h2, fun j hj => ?_⟩
    have := h3 j hj
    simpa using this
/-- What reading needs of an array of rows. -/
def ArrR (w : World) (g off : Nat) (F : Nat → List Int) : Prop := ∀ i, i < 8 → ∃ A n c, w.cell? ⟨g, off + i, none⟩ = some (.slice A n c) ∧ RD w w.heap.size A n (F i) ∧ n ≤ 9223372036854775807
theorem Arr.reads {w : World} {B g : Nat} {t : TypeId} {hd tl : List Value} {vs : Nat → Value} {F : Nat → List Int} (h : Arr w B g t hd 8 tl vs F) : ArrR w g hd.length F := fun i hi => by
  obtain ⟨A, c, hv, h1, h2⟩ := (h.row i hi).shape
  have h3 := h.row i hi
  have h4 := h.cell hi
  rw [hv] at h3 h4
  unfold maxLen at h2
  exact ⟨A, _, c, h4, RD.of_row h3, by omega⟩
set_option maxRecDepth 100000 in
theorem clo147 (q : Nat) (t : Int) (A : Option Addr) (n c : Nat) (xs : List Int) (w : World) (h : RD w w.heap.size A n xs) (hn : n ≤ 9223372036854775807) (hq : w.cell? ⟨q, 0, none⟩ = some (.int .i64 t)) :
    Calls Try.prog 147 #[.slice A n c, .pointer (some ⟨q, 0, none⟩)] w fun e w' => e = .returned (.bool (xs.contains t)) ∧ w = w' := by
  have HC := Lib.hid (contains_any A n c t xs w _ h hn)
  generalize xs.contains t = b at *
  go_enter Try.func147, Try.ntmps147
  go_wp2_with fail
  refine HC.out.mono ?_
  rintro e w' ⟨rfl, rfl⟩
  go_wp2
  go_ret
  exact ⟨rfl, rfl⟩
set_option maxRecDepth 100000 in
theorem idx146 (q g : Nat) (t : Int) (F : Nat → List Int) (w : World) (h : ArrR w g 1 F) (hq : w.cell? ⟨q, 0, none⟩ = some (.int .i64 t)) :
    Calls Try.prog 146 #[.slice (some ⟨g, 1, none⟩) 8 8, .func (.func 147) #[] #[.pointer (some ⟨q, 0, none⟩)]] w fun e w' => e = .returned (.int .i64 (ofI F t)) ∧ w = w' := by
  have HR := Lib.hid h
  clear h
  go_enter Try.func146, Try.ntmps146
  go_wp2
  go_loop [8] (fun i => ∃ k : Nat, k ≤ 8 ∧ i = .int .i64 k ∧ Hid (∀ j, j < k → (F j).contains t = false)) (fun i => 8 - (intOf i).toNat)
  case atStart => exact ⟨0, by omega, rfl, Lib.hid (fun j hj => by omega)⟩
  case round =>
    obtain ⟨k, hk, rfl, hno⟩ := hrel
    by_cases hlt : k < 8
    · obtain ⟨A, n, c, hc, hr, hn⟩ := HR.out k hlt
      have hkn : (k : Int) < 8 := by omega
      have HF := Lib.hid (clo147 q t A n c (F k) w hr hn hq)
      have hY := Lib.hid (fun y => ofI_at (F := F) (t := t) hlt y hno.out)
      have hN := Lib.hid (fun y => sl_next (p := fun j => (F j).contains t = false) hno.out y)
      cases hct : (F k).contains t with
      | true =>
        have hr' := Lib.hid (hY.out hct)
        rw [hct] at HF
        clear hct
        go_wp2_with fail
        refine HF.out.mono ?_
        rintro e w' ⟨rfl, rfl⟩
        go_wp2
        go_ret
        exact ⟨sl_int hr'.out.symm, rfl⟩
      | false =>
        have hr' := Lib.hid (hN.out hct)
        rw [hct] at HF
        clear hct
        go_wp2_with fail
        refine HF.out.mono ?_
        rintro e w' ⟨rfl, rfl⟩
        go_wp2
        go_round
        case rel => exact ⟨k + 1, by omega, by go_num, hr'⟩
        case measure => simp [intOf]; omega
    · obtain rfl : k = 8 := by omega
      go_wp2
      go_ret
      exact ⟨sl_int (ofI_none hno.out).symm, rfl⟩
theorem ArrR.grow {w w' : World} {g off : Nat} {F : Nat → List Int} (h : ArrR w g off F) (hb : Below w.heap.size w w') : ArrR w' g off F := fun i hi => by
  obtain ⟨A, n, c, h1, h2, h3⟩ := h i hi
  exact ⟨A, n, c, (hb.cell (p := ⟨g, off + i, none⟩) (pr_lt_cell h1)).trans h1, (h2.below' hb (Nat.le_refl _) : RD w' w.heap.size A n (F i)).more hb.size, h3⟩
set_option maxRecDepth 100000 in
theorem at83 (g : Nat) (t : Int) (F : Nat → List Int) (w : World) (h : ArrR w g 1 F) :
    Calls Try.prog 83 #[.pointer (some ⟨g, 0, none⟩), .int .i64 t] w fun e w' => e = .returned (.int .i64 (ofI F t)) ∧ Below w.heap.size w w' := by
  have hmf : ∀ fn first cap w, (Instr.makeFunc fn first cap).run Try.prog w = .ok (.func fn first cap) w := fun _ _ _ _ => rfl
  have HB : Hid (Below w.heap.size w (w.alloc (.cells #[.int .i64 t] 3))) := Lib.hid ((Below.refl _ _).alloc (Nat.le_refl _) _)
  have HF := Lib.hid (idx146 w.heap.size g t F (w.alloc (.cells #[.int .i64 t] 3)) (h.grow HB.out) ((Blk.new w #[.int .i64 t] 3).cell 0))
  obtain ⟨_, _, _, hc0, _⟩ := h 0 (by omega)
  have hgl := pr_lt_cell hc0
  clear hc0 h
  generalize ofI F t = y at *
  go_enter Try.func83, Try.ntmps83
  go_wp2_with fail
  refine HF.out.mono ?_
  rintro e w' ⟨rfl, rfl⟩
  go_wp2
  go_ret
  exact ⟨rfl, HB.out⟩
set_option maxRecDepth 100000 in
theorem of22 (q : Nat) (t : Int) (F : Nat → List Int) (w : World) (h : ArrR w q 0 F) :
    Calls Try.prog 22 #[.pointer (some ⟨q, 0, none⟩), .int .i64 t] w fun e w' => e = .returned (.int .i64 (ofI F t)) ∧ Below w.heap.size w w' := by
  have HR := Lib.hid h
  clear h
  go_enter Try.func22, Try.ntmps22
  go_wp2
  go_loopw [9] (fun i wr => ∃ k : Nat, k ≤ 8 ∧ i = .int .i64 k ∧ Hid (∀ j, j < k → (F j).contains t = false) ∧ Below w.heap.size w wr) (fun i _ => 8 - (intOf i).toNat)
  case atStart => exact ⟨0, by omega, rfl, Lib.hid (fun j hj => by omega), Below.refl _ _⟩
  case round =>
    obtain ⟨k, hk, rfl, hno, hbw⟩ := hrel
    by_cases hlt : k < 8
    · obtain ⟨A, n, c, hc, hr, hn⟩ := (HR.out.grow hbw) k hlt
      rw [Nat.zero_add] at hc
      have hkn : (k : Int) < 8 := by omega
      have hk0 : (0 : Int) ≤ k := by omega
      have HF := Lib.hid (fun m => contains_any A n c t (F k) (wr.drewN m) _ (hr : RD (wr.drewN m) _ A n (F k)) hn)
      have hY := Lib.hid (fun y => ofI_at (F := F) (t := t) hlt y hno.out)
      have hN := Lib.hid (fun y => sl_next (p := fun j => (F j).contains t = false) hno.out y)
      cases hct : (F k).contains t with
      | true =>
        have hr' := Lib.hid (hY.out hct)
        rw [hct] at HF
        clear hct
        go_wp2
        go_quiet (fail)
        go_wp2_with fail
        refine (HF.out _).mono ?_
        rintro e w' ⟨rfl, rfl⟩
        go_wp2
        go_ret
        exact ⟨sl_int hr'.out.symm, sl_below_drewN hbw _⟩
      | false =>
        have hr' := Lib.hid (hN.out hct)
        rw [hct] at HF
        clear hct
        go_wp2
        go_quiet (fail)
        go_wp2_with fail
        refine (HF.out _).mono ?_
        rintro e w' ⟨rfl, rfl⟩
        go_wp2
        go_roundw
        case rel => exact ⟨k + 1, by omega, by go_num, hr', sl_below_drewN hbw _⟩
        case measure => simp [intOf]; omega
    · obtain rfl : k = 8 := by omega
      go_wp2
      go_ret
      exact ⟨sl_int (ofI_none hno.out).symm, hbw⟩
end Go.Proofs.Ytenhcpobncmedaa
