/- Uses of a processor in memory; contracts of admit.Check, ringref1.Uses, ringlaw1.uses. -/
import Derived.Test.YtnfmnocmglggdaaProg
import Derived.Test.YtnfmnocmglggdaaNear
import Derived.Test.YtnfmnocmglggdaaOwn
import Derived.Test.YtnfmnocmglggdaaRecs
import Derived.WalkSpells
import Derived.WalkLawsBesides
import Derived.Outline
import Derived.LoopTactic
import Derived.Deep.Light
import Derived.IntWalk
import Derived.Lib.Hide
import Derived.Lib.SliceRun
import Derived.Deep.RegionLaw
namespace Go.Proofs.Ytnfmnocmglggdaa
open Go.RowKit
set_option maxHeartbeats 400000
set_option linter.unusedVariables false
set_option linter.unusedSimpArgs false
theorem sl_bool {a b : Bool} (h : a = b) : Ending.returned (.bool a) = .returned (.bool b) := by rw [h]
theorem sl_int {k : IntKind} {a b : Int} (h : a = b) : Ending.returned (.int k a) = .returned (.int k b) := by rw [h]
theorem sl_next {p : Nat → Prop} {k : Nat} (h : ∀ j, j < k → p j) (hk : p k) : ∀ j, j < k + 1 → p j := fun j hj => by
  rcases Nat.lt_or_ge j k with hjk | hjk
  · exact h j hjk
  · obtain rfl : j = k := by omega
    exact hk
/-- A use of a processor. -/
structure Us where
  c : Int
  p : Int
def Us.cells (u : Us) : List Value := [.int .i64 u.c, .int .i64 u.p]
def Us.zero : Us := ⟨0, 0⟩
def Us.okB (u : Us) : Bool := decide (1 ≤ u.p ∧ u.p ≤ 30 ∧ 1 ≤ u.c ∧ u.c ≤ u.p)
def RU (w : World) (B : Nat) (A : Option Addr) (n : Nat) (us : List Us) : Prop := RS Us.cells 2 w B A n us
theorem RU.below' {w w' : World} {B B' n : Nat} {A : Option Addr} {us : List Us} (h : RU w B A n us) (hb : Below B' w w') (hB : B ≤ B') : RU w' B A n us := RS.below' h hb hB
theorem RU.len {w : World} {B n : Nat} {A : Option Addr} {us : List Us} (h : RU w B A n us) : us.length = n := h.2
theorem RU.at_ {w : World} {B n i : Nat} {A : Option Addr} {us : List Us} (h : RU w B A n us) (hi : i < n) :
    ∃ b o, A = some ⟨b, o, none⟩ ∧ b < B ∧ us.getD i .zero ∈ us ∧ w.cell? ⟨b, o + i * 2, none⟩ = some (.int .i64 (us.getD i .zero).c) ∧ w.cell? ⟨b, o + i * 2 + 1, none⟩ = some (.int .i64 (us.getD i .zero).p) := by
  obtain ⟨b, o, e, hb, hm, hc⟩ := RS.at_ (cl := Us.cells) (s := 2) (fun _ => rfl) Us.zero h hi
  exact ⟨b, o, e, hb, hm, hc 0 _ rfl, hc 1 _ rfl⟩
def chkU (us : List Us) : Int := if 16 < us.length then 2 else if us.all Us.okB then 0 else 1
theorem chk_all {us : List Us} {n : Nat} (hl : us.length = n) (hn : ¬ 16 < n) (h : ∀ j, j < n → (us.getD j .zero).okB = true) : chkU us = 0 := by
  unfold chkU
  rw [if_neg (by omega), if_pos]
  rw [List.all_eq_true]
  intro u hu
  obtain ⟨j, hj, rfl⟩ := List.mem_iff_getElem.1 hu
  have := h j (by omega)
  simpa [List.getD, List.getElem?_eq_getElem hj] using this
theorem chk_not {us : List Us} {u : Us} (hn : ¬ 16 < us.length) (hm : u ∈ us) (h : u.okB = false) : chkU us = 1 := by
  unfold chkU
  rw [if_neg hn, if_neg]
  intro hh
  rw [List.all_eq_true.1 hh u hm] at h; cases h
theorem chk_big {us : List Us} (h : 16 < us.length) : chkU us = 2 := by unfold chkU; rw [if_pos h]
theorem chk_ok {us : List Us} (h : chkU us = 0) : us.length ≤ 16 ∧ ∀ u ∈ us, 1 ≤ u.p ∧ u.p ≤ 30 ∧ 1 ≤ u.c ∧ u.c ≤ u.p := by
  unfold chkU at h
  split at h
  · cases h
  · split at h
    · rename_i h1 h2
      refine ⟨by omega, fun u hu => ?_⟩
      have := List.all_eq_true.1 h2 u hu
      simpa [Us.okB] using this
    · cases h
def ChkPost (w : World) (x : Int) (e : Ending) (w' : World) : Prop := e = .returned (.int .i64 x) ∧ Below w.heap.size w w'
theorem chkU_any (A : Option Addr) (n c : Nat) (us : List Us) (w : World) (B : Nat) (h : RU w B A n us) (hB : B ≤ w.heap.size) (hn : n ≤ 9223372036854775807) : Calls Try.prog 8 #[.slice A n c] w (ChkPost w (chkU us)) := by
  have HL := Lib.hid h.len
  by_cases hbig : 16 < n
  · have ht : chkU us = 2 := chk_big (by rw [HL.out]; exact hbig)
    rw [ht]
    clear ht
    go_enter Try.func8, Try.ntmps8
    go_wp2
    go_ret
    exact ⟨rfl, Below.refl _ _⟩
  · go_enter Try.func8, Try.ntmps8
    go_wp2
    go_loopw [10] (fun i wr => ∃ k : Nat, k ≤ n ∧ i = .int .i64 k ∧ Hid (∀ j, j < k → (us.getD j .zero).okB = true) ∧ Below w.heap.size w wr) (fun i _ => n - (intOf i).toNat)
    case atStart => exact ⟨0, by omega, rfl, Lib.hid (fun j hj => by omega), Below.refl _ _⟩
    case round =>
      obtain ⟨k, hk, rfl, hg, hbw⟩ := hrel
      by_cases hlt : k < n
      · obtain ⟨b, o, rfl, hb, hm, c0, c1⟩ := (h.below' hbw hB).at_ hlt
        have HN := Lib.hid (fun y => sl_next (p := fun j => (us.getD j .zero).okB = true) hg.out y)
        have HM := Lib.hid hm
        clear hm
        have hbn : Below w.heap.size w (wr.alloc (.cells #[.int .i64 (us.getD k .zero).c, .int .i64 (us.getD k .zero).p] 29)) := hbw.alloc hbw.size _
        generalize us.getD k .zero = u at *
        obtain ⟨uc, up⟩ := u
        dsimp only at c0 c1 hbn
        have HX : Hid (Us.okB ⟨uc, up⟩ = false → chkU us = 1) := Lib.hid (fun y => chk_not (by rw [HL.out]; exact hbig) HM.out y)
        by_cases d1 : up < 1
        · have e := Lib.hid (HX.out (by simp [Us.okB]; omega))
          go_wp2
          go_ret
          exact ⟨sl_int e.out.symm, hbn⟩
        by_cases d2 : 30 < up
        · have e := Lib.hid (HX.out (by simp [Us.okB]; omega))
          go_wp2
          go_ret
          exact ⟨sl_int e.out.symm, hbn⟩
        by_cases d3 : uc < 1
        · have e := Lib.hid (HX.out (by simp [Us.okB]; omega))
          go_wp2
          go_ret
          exact ⟨sl_int e.out.symm, hbn⟩
        by_cases d4 : up < uc
        · have e := Lib.hid (HX.out (by simp [Us.okB]; omega))
          go_wp2
          go_ret
          exact ⟨sl_int e.out.symm, hbn⟩
        have e := Lib.hid (HN.out (by simp [Us.okB]; omega))
        go_wp2
        go_roundw
        case rel => exact ⟨k + 1, by omega, by go_num, e, hbn⟩
        case measure => simp [intOf]; omega
      · obtain rfl : k = n := by omega
        have e := Lib.hid (chk_all HL.out hbig hg.out)
        go_wp2
        go_ret
        exact ⟨sl_int e.out.symm, hbw⟩
theorem within2_any (x a b : Int) (w : World) : Calls Try.prog 9 #[.int .i64 x, .int .i64 a, .int .i64 b] w fun e w' => e = .returned (.bool (decide (a ≤ x) && decide (x ≤ b))) ∧ w = w' := by
  by_cases h : a ≤ x
  · have d : decide (a ≤ x) = true := by simpa using h
    go_enter Try.func9, Try.ntmps9
    go_wp2
    go_ret
    exact ⟨sl_bool (by simp [h]), rfl⟩
  · have d : decide (a ≤ x) = false := by simpa using h
    go_enter Try.func9, Try.ntmps9
    go_wp2
    go_ret
    exact ⟨sl_bool (by simp [h]), rfl⟩
theorem within2_is {b : Bool} (x a c : Int) (w : World) (h : (decide (a ≤ x) && decide (x ≤ c)) = b) : Calls Try.prog 9 #[.int .i64 x, .int .i64 a, .int .i64 c] w fun e w' => e = .returned (.bool b) ∧ w = w' := h ▸ within2_any x a c w
theorem usesR_any (A : Option Addr) (n c : Nat) (us : List Us) (w : World) (B : Nat) (h : RU w B A n us) (hB : B ≤ w.heap.size) (hn : n ≤ 9223372036854775807) : Calls Try.prog 6 #[.slice A n c] w (ChkPost w (chkU us)) := by
  have HL := Lib.hid h.len
  by_cases hbig : 16 < n
  · have ht : chkU us = 2 := chk_big (by rw [HL.out]; exact hbig)
    rw [ht]
    clear ht
    go_enter Try.func6, Try.ntmps6
    go_wp2
    go_ret
    exact ⟨rfl, Below.refl _ _⟩
  · go_enter Try.func6, Try.ntmps6
    go_wp2
    go_loopw [10] (fun i wr => ∃ k : Nat, k ≤ n ∧ i = .int .i64 k ∧ Hid (∀ j, j < k → (us.getD j .zero).okB = true) ∧ Below w.heap.size w wr) (fun i _ => n - (intOf i).toNat)
    case atStart => exact ⟨0, by omega, rfl, Lib.hid (fun j hj => by omega), Below.refl _ _⟩
    case round =>
      obtain ⟨k, hk, rfl, hg, hbw⟩ := hrel
      by_cases hlt : k < n
      · obtain ⟨b, o, rfl, hb, hm, c0, c1⟩ := (h.below' hbw hB).at_ hlt
        have HN := Lib.hid (fun y => sl_next (p := fun j => (us.getD j .zero).okB = true) hg.out y)
        have HM := Lib.hid hm
        clear hm
        have hbn : Below w.heap.size w (wr.alloc (.cells #[.int .i64 (us.getD k .zero).c, .int .i64 (us.getD k .zero).p] 35)) := hbw.alloc hbw.size _
        generalize us.getD k .zero = u at *
        obtain ⟨uc, up⟩ := u
        dsimp only at c0 c1 hbn
        have HX : Hid (Us.okB ⟨uc, up⟩ = false → chkU us = 1) := Lib.hid (fun y => chk_not (by rw [HL.out]; exact hbig) HM.out y)
        by_cases d1 : 1 ≤ up ∧ up ≤ 30
        · by_cases d2 : 1 ≤ uc ∧ uc ≤ up
          · have e := Lib.hid (HN.out (by simp [Us.okB]; omega))
            go_wp2_with fail
            refine (within2_is _ _ _ _ (b := true) (by simp; omega)).mono ?_
            rintro e w' ⟨rfl, rfl⟩
            go_wp2_with fail
            refine (within2_is _ _ _ _ (b := true) (by simp; omega)).mono ?_
            rintro e w' ⟨rfl, rfl⟩
            go_wp2
            go_roundw
            case rel => exact ⟨k + 1, by omega, by go_num, e, hbn⟩
            case measure => simp [intOf]; omega
          · have e := Lib.hid (HX.out (by simp [Us.okB]; omega))
            go_wp2_with fail
            refine (within2_is _ _ _ _ (b := true) (by simp; omega)).mono ?_
            rintro e w' ⟨rfl, rfl⟩
            go_wp2_with fail
            refine (within2_is _ _ _ _ (b := false) (by simp; omega)).mono ?_
            rintro e w' ⟨rfl, rfl⟩
            go_wp2
            go_ret
            exact ⟨sl_int e.out.symm, hbn⟩
        · have e := Lib.hid (HX.out (by simp [Us.okB]; omega))
          go_wp2_with fail
          refine (within2_is _ _ _ _ (b := false) (by simp; omega)).mono ?_
          rintro e w' ⟨rfl, rfl⟩
          go_wp2
          go_ret
          exact ⟨sl_int e.out.symm, hbn⟩
      · obtain rfl : k = n := by omega
        have e := Lib.hid (chk_all HL.out hbig hg.out)
        go_wp2
        go_ret
        exact ⟨sl_int e.out.symm, hbw⟩
theorem reads_cells (w : World) (t : TypeId) (s m : Nat) (xs : List Value) (hl : xs.length = m * s) : Reads (w.alloc (.cells xs.toArray t)) (w.heap.size + 1) s (some ⟨w.heap.size, 0, none⟩) m xs := by
  refine ⟨hl, fun _ => ⟨w.heap.size, 0, rfl, by omega, fun j u hu => ?_⟩⟩
  rw [(Blk.new w xs.toArray t).cell]
  simpa using hu
theorem Try.infoUse : (Try.prog.info? 29).map (fun i => (i.zero, i.size, i.bytes)) = some (some (.agg #[.int .i64 0, .int .i64 0]), 2, 16) := by kernel_rfl
def UsesPost (w : World) (n : Nat) (us : List Us) (e : Ending) (w' : World) : Prop := ∃ A c, e = .returned (.slice A n c) ∧ RU w' w'.heap.size A n us ∧ Below w.heap.size w w'
theorem flat_take {us : List Us} {k : Nat} (hk : k < us.length) : (us.take (k + 1)).flatMap Us.cells = (us.take k).flatMap Us.cells ++ (us.getD k .zero).cells := by
  rw [List.take_succ_eq_append_getElem hk, List.flatMap_append]
  simp [List.getD, List.getElem?_eq_getElem hk]
set_option maxRecDepth 100000 in
theorem uses_any (A : Option Addr) (n c : Nat) (us : List Us) (w : World) (B : Nat) (h : RU w B A n us) (hB : B ≤ w.heap.size) (hn : n * 16 ≤ 140737488355328) : Calls Try.prog 5 #[.slice A n c] w (UsesPost w n us) := by
  have HL := Lib.hid h.len
  obtain ⟨i0, hi, hz0, hz1, hz2⟩ := info_parts Try.infoUse
  go_enter Try.func5, Try.ntmps5
  go_wp2
  go_loopw [3, 8] (fun v i wr => ∃ k : Nat, k ≤ n ∧ i = .int .i64 k ∧ Row wr w.heap.size 29 2 v k ((us.take k).flatMap Us.cells) ∧ Below w.heap.size w wr) (fun _ i _ => n - (intOf i).toNat)
  case atStart => exact ⟨0, by omega, rfl, Row.nil _ _ _ _, Below.refl _ _⟩
  case round =>
    obtain ⟨k, hk, rfl, hr, hbw⟩ := hrel
    obtain ⟨A9, c9, rfl, hc1, hc2⟩ := hr.shape
    by_cases hlt : k < n
    · obtain ⟨b, o, rfl, hb, hme, c0, c1⟩ := (h.below' hbw hB).at_ hlt
      have HS := Lib.hid (flat_take (us := us) (k := k) (by rw [HL.out]; exact hlt))
      clear hme
      generalize us.getD k .zero = u at *
      obtain ⟨uc, up⟩ := u
      dsimp only at c0 c1
      have hsz := hbw.size
      have hrd : Reads ((wr.alloc (.cells #[.int .i64 uc, .int .i64 up] 35)).alloc (.cells #[.int .i64 uc, .int .i64 up] 29)) (wr.heap.size + 1 + 1) 2 (some ⟨wr.heap.size + 1, 0, none⟩) 1 [.int .i64 uc, .int .i64 up] := by
        have := reads_cells (wr.alloc (.cells #[.int .i64 uc, .int .i64 up] 35)) 29 2 1 [.int .i64 uc, .int .i64 up] rfl
        simpa using this
      go_wp2_with (at_builtin; refine wpList_append_row _ rfl (.tmp 12) (.tmp 18) 26 rfl w.heap.size 29 i0 (.agg #[.int .i64 0, .int .i64 0]) 2 16 Try.underlying26 hi hz0 hz1 hz2 rfl (by decide) (.slice A9 k c9) k ((us.take k).flatMap Us.cells) rfl ((hr.alloc _).alloc _) (wr.heap.size + 1 + 1) (some ⟨wr.heap.size + 1, 0, none⟩) 1 1 [.int .i64 uc, .int .i64 up] rfl hrd (by simp [Value.oneCell']) (by unfold maxLen; omega) (by omega) (by simp; omega) ?_)
      intro A1 c1' w1 hr1 hg1 ho1
      have hb1 : Below w.heap.size w w1 := ((hbw.alloc hsz _).alloc (by simp; omega) _).grown hg1 (by simp; omega) (fun k hk => (hr.lt k hk).1)
      have hr2 : Row w1 w.heap.size 29 2 (.slice A1 (k + 1) c1') (k + 1) ((us.take (k + 1)).flatMap Us.cells) := by rw [HS.out]; exact hr1
      clear hr1 hg1 ho1 hr hbw hrd
      go_wp2
      go_roundw
      case rel => exact ⟨k + 1, by omega, by go_num, hr2, hb1⟩
      case measure => simp [intOf]; omega
    · obtain rfl : k = n := by omega
      have e : us.take k = us := List.take_of_length_le (by rw [HL.out]; exact Nat.le_refl _)
      rw [e] at hr
      clear e
      go_wp2
      go_ret
      exact ⟨_, _, rfl, ⟨hr.reads, HL.out⟩, hbw⟩
end Go.Proofs.Ytnfmnocmglggdaa
