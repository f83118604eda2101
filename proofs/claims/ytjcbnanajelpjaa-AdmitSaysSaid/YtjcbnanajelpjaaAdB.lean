/- Contracts of admit.gcd, Check, Round, Share, Fits, Demand. -/
import Derived.Test.YtjcbnanajelpjaaSlA
import Derived.Test.YtjcbnanajelpjaaAdA
import Derived.Deep.RegionLaw
namespace Go.Proofs.Ytjcbnanajelpjaa
open Go.RowKit
set_option maxHeartbeats 400000
set_option linter.unusedVariables false
set_option linter.unusedSimpArgs false
def GcdPost (g : Nat) (w : World) (e : Ending) (w' : World) : Prop := e = .returned (.int .i64 g) ∧ ∃ n, w' = w.drewN n
theorem gcd_any (a b : Nat) (ha : a ≤ 9223372036854775807) (hb : b ≤ 9223372036854775807) (w : World) : Calls Try.prog 69 #[.int .i64 a, .int .i64 b] w (GcdPost (Nat.gcd a b) w) := by
  go_enter Try.func69, Try.ntmps69
  go_wp2
  go_loopw [0, 1] (fun x y wr => ∃ a' b' : Nat, x = .int .i64 a' ∧ y = .int .i64 b' ∧ Hid (Nat.gcd a' b' = Nat.gcd a b) ∧ a' ≤ 9223372036854775807 ∧ b' ≤ 9223372036854775807 ∧ Hid (∃ n, wr = w.drewN n)) (fun _ y _ => (intOf y).toNat)
  case atStart => exact ⟨a, b, rfl, rfl, Lib.hid rfl, ha, hb, Lib.hid ⟨0, rfl⟩⟩
  case round =>
    obtain ⟨a', b', rfl, rfl, hg, h1, h2, hw⟩ := hrel
    by_cases h0 : 0 < b'
    · have hlt := Nat.mod_lt a' h0
      have hG : Hid (Nat.gcd b' (a' % b') = Nat.gcd a b) := Lib.hid (by rw [← hg.out, Nat.gcd_comm a' b', Nat.gcd_rec b' a', Nat.gcd_comm]; )
      have hp : 0 < (b' : Int) := by omega
      go_wp2
      go_quiet (fail)
      go_wp2
      go_roundw
      case rel => exact ⟨b', a' % b', rfl, by go_num, hG, h2, by omega, Lib.hid (by obtain ⟨n, e⟩ := hw.out; exact ⟨n + nq, by rw [e, World.drewN_drewN]⟩)⟩
      case measure => simp [intOf]; omega
    · obtain rfl : b' = 0 := by omega
      go_wp2
      go_ret
      have := hg.out
      rw [Nat.gcd_zero_right] at this
      exact ⟨sl_int (by rw [this]), hw.out⟩
/-- A use of a processor. -/
structure Us where
  c : Int
  p : Int
def Us.cells (u : Us) : List Value := [.int .i64 u.c, .int .i64 u.p]
def Us.zero : Us := ⟨0, 0⟩
def Us.okB (u : Us) : Bool := decide (1 ≤ u.p ∧ u.p ≤ 30 ∧ 1 ≤ u.c ∧ u.c ≤ u.p)
def RU (w : World) (B : Nat) (A : Option Addr) (n : Nat) (us : List Us) : Prop := RS Us.cells 2 w B A n us
theorem RU.below' {w w' : World} {B B' n : Nat} {A : Option Addr} {us : List Us} (h : RU w B A n us) (hb : Below B' w w') (hB : B ≤ B') : RU w' B A n us := RS.below' h hb hB
theorem RU.len {w : World} {B n : Nat} {A : Option Addr} {us : List Us} (h : RU w B A n us) : us.length = n := h.2
theorem RU.at_ {w : World} {B n i : Nat} {A : Option Addr} {us : List Us} (h : RU w B A n us) (hi : i < n) :
    ∃ b o, A = some ⟨b, o, none⟩ ∧ b < B ∧ us.getD i .zero ∈ us ∧ w.cell? ⟨b, o + i * 2, none⟩ = some (.int .i64 (us.getD i .zero).c) ∧ w.cell? ⟨b, o + i * 2 + 1, none⟩ = some (.int .i64 (us.getD i .zero).p) := by
  obtain ⟨b, o, e, hb, hm, hc⟩ := RS.at_ (cl := Us.cells) (s := 2) (fun _ => rfl) Us.zero h hi
  exact ⟨b, o, e, hb, hm, hc 0 _ rfl, hc 1 _ rfl⟩
def chkU (us : List Us) : Int := if 16 < us.length then 2 else if us.all Us.okB then 0 else 1
theorem chk_all {us : List Us} {n : Nat} (hl : us.length = n) (hn : ¬ 16 < n) (h : ∀ j, j < n → (us.getD j .zero).okB = true) : chkU us = 0 := by
  unfold chkU
  rw [if_neg (by omega), if_pos]
  rw [List.all_eq_true]
  intro u hu
  obtain ⟨j, hj, rfl⟩ := List.mem_iff_getElem.1 hu
  have := h j (by omega)
  simpa [List.getD, List.getElem?_eq_getElem hj] using this
theorem chk_not {us : List Us} {u : Us} (hn : ¬ 16 < us.length) (hm : u ∈ us) (h : u.okB = false) : chkU us = 1 := by
  unfold chkU
  rw [if_neg hn, if_neg]
  intro hh
  rw [List.all_eq_true.1 hh u hm] at h; cases h
theorem chk_big {us : List Us} (h : 16 < us.length) : chkU us = 2 := by unfold chkU; rw [if_pos h]
theorem chk_ok {us : List Us} (h : chkU us = 0) : us.length ≤ 16 ∧ ∀ u ∈ us, 1 ≤ u.p ∧ u.p ≤ 30 ∧ 1 ≤ u.c ∧ u.c ≤ u.p := by
  unfold chkU at h
  split at h
  · cases h
  · split at h
    · rename_i h1 h2
      refine ⟨by omega, fun u hu => ?_⟩
      have := List.all_eq_true.1 h2 u hu
      simpa [Us.okB] using this
    · cases h
def ChkPost (w : World) (x : Int) (e : Ending) (w' : World) : Prop := e = .returned (.int .i64 x) ∧ Below w.heap.size w w'
theorem chkU_any (A : Option Addr) (n c : Nat) (us : List Us) (w : World) (B : Nat) (h : RU w B A n us) (hB : B ≤ w.heap.size) (hn : n ≤ 9223372036854775807) : Calls Try.prog 35 #[.slice A n c] w (ChkPost w (chkU us)) := by
  have HL := Lib.hid h.len
  by_cases hbig : 16 < n
  · have ht : chkU us = 2 := chk_big (by rw [HL.out]; exact hbig)
    rw [ht]
    clear ht
    go_enter Try.func35, Try.ntmps35
    go_wp2
    go_ret
    exact ⟨rfl, Below.refl _ _⟩
  · go_enter Try.func35, Try.ntmps35
    go_wp2
    go_loopw [10] (fun i wr => ∃ k : Nat, k ≤ n ∧ i = .int .i64 k ∧ Hid (∀ j, j < k → (us.getD j .zero).okB = true) ∧ Below w.heap.size w wr) (fun i _ => n - (intOf i).toNat)
    case atStart => exact ⟨0, by omega, rfl, Lib.hid (fun j hj => by omega), Below.refl _ _⟩
    case round =>
      obtain ⟨k, hk, rfl, hg, hbw⟩ := hrel
      by_cases hlt : k < n
      · obtain ⟨b, o, rfl, hb, hm, c0, c1⟩ := (h.below' hbw hB).at_ hlt
        have HN := Lib.hid (fun y => sl_next (p := fun j => (us.getD j .zero).okB = true) hg.out y)
        have HM := Lib.hid hm
        clear hm
        have hbn : Below w.heap.size w (wr.alloc (.cells #[.int .i64 (us.getD k .zero).c, .int .i64 (us.getD k .zero).p] 63)) := hbw.alloc hbw.size _
        generalize us.getD k .zero = u at *
        obtain ⟨uc, up⟩ := u
        dsimp only at c0 c1 hbn
        have HX : Hid (Us.okB ⟨uc, up⟩ = false → chkU us = 1) := Lib.hid (fun y => chk_not (by rw [HL.out]; exact hbig) HM.out y)
        by_cases d1 : up < 1
        · have e := Lib.hid (HX.out (by simp [Us.okB]; omega))
          go_wp2
          go_ret
          exact ⟨sl_int e.out.symm, hbn⟩
        by_cases d2 : 30 < up
        · have e := Lib.hid (HX.out (by simp [Us.okB]; omega))
          go_wp2
          go_ret
          exact ⟨sl_int e.out.symm, hbn⟩
        by_cases d3 : uc < 1
        · have e := Lib.hid (HX.out (by simp [Us.okB]; omega))
          go_wp2
          go_ret
          exact ⟨sl_int e.out.symm, hbn⟩
        by_cases d4 : up < uc
        · have e := Lib.hid (HX.out (by simp [Us.okB]; omega))
          go_wp2
          go_ret
          exact ⟨sl_int e.out.symm, hbn⟩
        have e := Lib.hid (HN.out (by simp [Us.okB]; omega))
        go_wp2
        go_roundw
        case rel => exact ⟨k + 1, by omega, by go_num, e, hbn⟩
        case measure => simp [intOf]; omega
      · obtain rfl : k = n := by omega
        have e := Lib.hid (chk_all HL.out hbig hg.out)
        go_wp2
        go_ret
        exact ⟨sl_int e.out.symm, hbw⟩
theorem within2_any (x a b : Int) (w : World) : Calls Try.prog 67 #[.int .i64 x, .int .i64 a, .int .i64 b] w fun e w' => e = .returned (.bool (decide (a ≤ x) && decide (x ≤ b))) ∧ w = w' := by
  by_cases h : a ≤ x
  · have d : decide (a ≤ x) = true := by simpa using h
    go_enter Try.func67, Try.ntmps67
    go_wp2
    go_ret
    exact ⟨sl_bool (by simp [h]), rfl⟩
  · have d : decide (a ≤ x) = false := by simpa using h
    go_enter Try.func67, Try.ntmps67
    go_wp2
    go_ret
    exact ⟨sl_bool (by simp [h]), rfl⟩
theorem within2_is {b : Bool} (x a c : Int) (w : World) (h : (decide (a ≤ x) && decide (x ≤ c)) = b) : Calls Try.prog 67 #[.int .i64 x, .int .i64 a, .int .i64 c] w fun e w' => e = .returned (.bool b) ∧ w = w' := h ▸ within2_any x a c w
theorem usesR_any (A : Option Addr) (n c : Nat) (us : List Us) (w : World) (B : Nat) (h : RU w B A n us) (hB : B ≤ w.heap.size) (hn : n ≤ 9223372036854775807) : Calls Try.prog 34 #[.slice A n c] w (ChkPost w (chkU us)) := by
  have HL := Lib.hid h.len
  by_cases hbig : 16 < n
  · have ht : chkU us = 2 := chk_big (by rw [HL.out]; exact hbig)
    rw [ht]
    clear ht
    go_enter Try.func34, Try.ntmps34
    go_wp2
    go_ret
    exact ⟨rfl, Below.refl _ _⟩
  · go_enter Try.func34, Try.ntmps34
    go_wp2
    go_loopw [10] (fun i wr => ∃ k : Nat, k ≤ n ∧ i = .int .i64 k ∧ Hid (∀ j, j < k → (us.getD j .zero).okB = true) ∧ Below w.heap.size w wr) (fun i _ => n - (intOf i).toNat)
    case atStart => exact ⟨0, by omega, rfl, Lib.hid (fun j hj => by omega), Below.refl _ _⟩
    case round =>
      obtain ⟨k, hk, rfl, hg, hbw⟩ := hrel
      by_cases hlt : k < n
      · obtain ⟨b, o, rfl, hb, hm, c0, c1⟩ := (h.below' hbw hB).at_ hlt
        have HN := Lib.hid (fun y => sl_next (p := fun j => (us.getD j .zero).okB = true) hg.out y)
        have HM := Lib.hid hm
        clear hm
        have hbn : Below w.heap.size w (wr.alloc (.cells #[.int .i64 (us.getD k .zero).c, .int .i64 (us.getD k .zero).p] 67)) := hbw.alloc hbw.size _
        generalize us.getD k .zero = u at *
        obtain ⟨uc, up⟩ := u
        dsimp only at c0 c1 hbn
        have HX : Hid (Us.okB ⟨uc, up⟩ = false → chkU us = 1) := Lib.hid (fun y => chk_not (by rw [HL.out]; exact hbig) HM.out y)
        by_cases d1 : 1 ≤ up ∧ up ≤ 30
        · by_cases d2 : 1 ≤ uc ∧ uc ≤ up
          · have e := Lib.hid (HN.out (by simp [Us.okB]; omega))
            go_wp2_with fail
            refine (within2_is _ _ _ _ (b := true) (by simp; omega)).mono ?_
            rintro e w' ⟨rfl, rfl⟩
            go_wp2_with fail
            refine (within2_is _ _ _ _ (b := true) (by simp; omega)).mono ?_
            rintro e w' ⟨rfl, rfl⟩
            go_wp2
            go_roundw
            case rel => exact ⟨k + 1, by omega, by go_num, e, hbn⟩
            case measure => simp [intOf]; omega
          · have e := Lib.hid (HX.out (by simp [Us.okB]; omega))
            go_wp2_with fail
            refine (within2_is _ _ _ _ (b := true) (by simp; omega)).mono ?_
            rintro e w' ⟨rfl, rfl⟩
            go_wp2_with fail
            refine (within2_is _ _ _ _ (b := false) (by simp; omega)).mono ?_
            rintro e w' ⟨rfl, rfl⟩
            go_wp2
            go_ret
            exact ⟨sl_int e.out.symm, hbn⟩
        · have e := Lib.hid (HX.out (by simp [Us.okB]; omega))
          go_wp2_with fail
          refine (within2_is _ _ _ _ (b := false) (by simp; omega)).mono ?_
          rintro e w' ⟨rfl, rfl⟩
          go_wp2
          go_ret
          exact ⟨sl_int e.out.symm, hbn⟩
      · obtain rfl : k = n := by omega
        have e := Lib.hid (chk_all HL.out hbig hg.out)
        go_wp2
        go_ret
        exact ⟨sl_int e.out.symm, hbw⟩
end Go.Proofs.Ytjcbnanajelpjaa
