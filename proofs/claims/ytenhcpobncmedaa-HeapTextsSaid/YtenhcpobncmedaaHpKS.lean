/- The law's own list of pairs (keys of type ByteArray): IndexFunc, first, Delete. -/
import Derived.Test.YtenhcpobncmedaaHpHS
import Derived.Test.YtenhcpobncmedaaDel
import Derived.Deep.RegionLaw
namespace Go.Proofs.Ytenhcpobncmedaa.HS
open Go.RowKit
set_option maxHeartbeats 400000
set_option linter.unusedVariables false
set_option linter.unusedSimpArgs false
def pc (p : Int × ByteArray) : List Value := [.int .i64 p.1, .string p.2]
/-- The numbers, in order. -/
def ids (l : List (Int × ByteArray)) : List Int := l.map Prod.fst
theorem ids_getD (l : List (Int × ByteArray)) (k : Nat) : (ids l).getD k 0 = (l.getD k zp).1 := by
  unfold ids
  rw [List.getD_eq_getElem?_getD, List.getD_eq_getElem?_getD, List.getElem?_map]
  cases l[k]? <;> rfl
theorem ids_len (l : List (Int × ByteArray)) : (ids l).length = l.length := by simp [ids]
theorem pair_at {w : World} {B n i : Nat} {A : Option Addr} {l : List (Int × ByteArray)} (h : RS pc 2 w B A n l) (hi : i < n) : ∃ b o, A = some ⟨b, o, none⟩ ∧ b < B ∧ w.cell? ⟨b, o + i * 2, none⟩ = some (.int .i64 (l.getD i zp).1) ∧ w.cell? ⟨b, o + i * 2 + 1, none⟩ = some (.string (l.getD i zp).2) := by
  obtain ⟨b, o, e, hb, _, hc⟩ := RS.at_ (cl := pc) (s := 2) (fun _ => rfl) zp h hi
  exact ⟨b, o, e, hb, hc 0 _ rfl, hc 1 _ rfl⟩
set_option maxRecDepth 100000 in
theorem clo1 (c : Int) (k : ByteArray) (x : Int) (g : Nat) (w : World) (hc : w.cell? ⟨g, 0, none⟩ = some (.int .i64 x)) :
    Calls Try.prog 102 #[.agg #[.int .i64 c, .string k], .pointer (some ⟨g, 0, none⟩)] w fun e w' => e = .returned (.bool (c == x)) ∧ Below w.heap.size w w' := by
  have hlt := pr_lt_cell hc
  have hne : ¬ g = w.heap.size := by omega
  go_enter Try.func102, Try.ntmps102
  go_wp2
  go_ret
  exact ⟨rfl, (Below.refl _ _).alloc (Nat.le_refl _) _⟩
set_option maxRecDepth 100000 in
theorem clo2 (c : Int) (k : ByteArray) (x : Int) (g : Nat) (w : World) (hc : w.cell? ⟨g, 0, none⟩ = some (.int .i64 x)) :
    Calls Try.prog 110 #[.agg #[.int .i64 c, .string k], .pointer (some ⟨g, 0, none⟩)] w fun e w' => e = .returned (.bool (c == x)) ∧ Below w.heap.size w w' := by
  have hlt := pr_lt_cell hc
  have hne : ¬ g = w.heap.size := by omega
  go_enter Try.func110, Try.ntmps110
  go_wp2
  go_ret
  exact ⟨rfl, (Below.refl _ _).alloc (Nat.le_refl _) _⟩
set_option maxRecDepth 100000 in
theorem idxf1 (x : Int) (g : Nat) (A : Option Addr) (n c : Nat) (cs : List (Int × ByteArray)) (w : World) (B : Nat) (h : RS pc 2 w B A n cs) (hB : B ≤ w.heap.size) (hn : n ≤ 9223372036854775807) (hc : w.cell? ⟨g, 0, none⟩ = some (.int .i64 x)) :
    Calls Try.prog 101 #[.slice A n c, .func (.func 102) #[] #[.pointer (some ⟨g, 0, none⟩)]] w fun e w' => e = .returned (.int .i64 (idxI (ids cs) x)) ∧ Below w.heap.size w w' := by
  have HL : Hid ((ids cs).length = n) := Lib.hid (by rw [ids_len]; exact h.2)
  have hgl := pr_lt_cell hc
  go_enter Try.func101, Try.ntmps101
  go_wp2
  go_loopw [8] (fun i wr => ∃ k : Nat, k ≤ n ∧ i = .int .i64 k ∧ Hid (∀ j, j < k → (ids cs).getD j 0 ≠ x) ∧ Below w.heap.size w wr) (fun i _ => n - (intOf i).toNat)
  case atStart => exact ⟨0, by omega, rfl, Lib.hid (fun j hj => by omega), Below.refl _ _⟩
  case round =>
    obtain ⟨k, hk, rfl, hno, hbw⟩ := hrel
    have hcr : wr.cell? ⟨g, 0, none⟩ = some (.int .i64 x) := (hbw.cell (p := ⟨g, 0, none⟩) hgl).trans hc
    by_cases hlt : k < n
    · obtain ⟨b, o, rfl, hb, c0, c1⟩ := pair_at (h.below' hbw hB) hlt
      have hY := Lib.hid (fun y => idxI_at (xs := ids cs) (x := x) (k := k) (by rw [HL.out]; exact hlt) y hno.out)
      have hN := Lib.hid (fun y => sl_next (p := fun j => (ids cs).getD j 0 ≠ x) hno.out y)
      rw [ids_getD] at hY hN
      generalize (cs.getD k zp).1 = y at *
      generalize (cs.getD k zp).2 = al at *
      have HF := Lib.hid (clo1 y al x g wr hcr)
      by_cases hp : y = x
      · have d : (y == x) = true := by simpa using hp
        have hr := Lib.hid (hY.out hp)
        rw [d] at HF
        clear hp
        go_wp2_with fail
        refine HF.out.mono ?_
        rintro e w1 ⟨rfl, hb1⟩
        go_wp2
        go_ret
        exact ⟨sl_int hr.out.symm, hbw.trans (hb1.mono hbw.size)⟩
      · have d : (y == x) = false := by simpa using hp
        rw [d] at HF
        go_wp2_with fail
        refine HF.out.mono ?_
        rintro e w1 ⟨rfl, hb1⟩
        go_wp2
        go_roundw
        case rel => exact ⟨k + 1, by omega, by go_num, Lib.hid (hN.out hp), hbw.trans (hb1.mono hbw.size)⟩
        case measure => simp [intOf]; omega
    · obtain rfl : k = n := by omega
      go_wp2
      go_ret
      exact ⟨sl_int (idxI_none (by rw [HL.out]; exact hno.out)).symm, hbw⟩
set_option maxRecDepth 100000 in
theorem idxf2 (x : Int) (g : Nat) (A : Option Addr) (n c : Nat) (cs : List (Int × ByteArray)) (w : World) (B : Nat) (h : RS pc 2 w B A n cs) (hB : B ≤ w.heap.size) (hn : n ≤ 9223372036854775807) (hc : w.cell? ⟨g, 0, none⟩ = some (.int .i64 x)) :
    Calls Try.prog 101 #[.slice A n c, .func (.func 110) #[] #[.pointer (some ⟨g, 0, none⟩)]] w fun e w' => e = .returned (.int .i64 (idxI (ids cs) x)) ∧ Below w.heap.size w w' := by
  have HL : Hid ((ids cs).length = n) := Lib.hid (by rw [ids_len]; exact h.2)
  have hgl := pr_lt_cell hc
  go_enter Try.func101, Try.ntmps101
  go_wp2
  go_loopw [8] (fun i wr => ∃ k : Nat, k ≤ n ∧ i = .int .i64 k ∧ Hid (∀ j, j < k → (ids cs).getD j 0 ≠ x) ∧ Below w.heap.size w wr) (fun i _ => n - (intOf i).toNat)
  case atStart => exact ⟨0, by omega, rfl, Lib.hid (fun j hj => by omega), Below.refl _ _⟩
  case round =>
    obtain ⟨k, hk, rfl, hno, hbw⟩ := hrel
    have hcr : wr.cell? ⟨g, 0, none⟩ = some (.int .i64 x) := (hbw.cell (p := ⟨g, 0, none⟩) hgl).trans hc
    by_cases hlt : k < n
    · obtain ⟨b, o, rfl, hb, c0, c1⟩ := pair_at (h.below' hbw hB) hlt
      have hY := Lib.hid (fun y => idxI_at (xs := ids cs) (x := x) (k := k) (by rw [HL.out]; exact hlt) y hno.out)
      have hN := Lib.hid (fun y => sl_next (p := fun j => (ids cs).getD j 0 ≠ x) hno.out y)
      rw [ids_getD] at hY hN
      generalize (cs.getD k zp).1 = y at *
      generalize (cs.getD k zp).2 = al at *
      have HF := Lib.hid (clo2 y al x g wr hcr)
      by_cases hp : y = x
      · have d : (y == x) = true := by simpa using hp
        have hr := Lib.hid (hY.out hp)
        rw [d] at HF
        clear hp
        go_wp2_with fail
        refine HF.out.mono ?_
        rintro e w1 ⟨rfl, hb1⟩
        go_wp2
        go_ret
        exact ⟨sl_int hr.out.symm, hbw.trans (hb1.mono hbw.size)⟩
      · have d : (y == x) = false := by simpa using hp
        rw [d] at HF
        go_wp2_with fail
        refine HF.out.mono ?_
        rintro e w1 ⟨rfl, hb1⟩
        go_wp2
        go_roundw
        case rel => exact ⟨k + 1, by omega, by go_num, Lib.hid (hN.out hp), hbw.trans (hb1.mono hbw.size)⟩
        case measure => simp [intOf]; omega
    · obtain rfl : k = n := by omega
      go_wp2
      go_ret
      exact ⟨sl_int (idxI_none (by rw [HL.out]; exact hno.out)).symm, hbw⟩
theorem keq_t {a b : ByteArray} (h : (a.toList == b.toList) = true) : klt b a = false := by
  have e : a.toList = b.toList := by simpa using h
  unfold klt
  rw [e]; exact bl_irr _
theorem keq_f {a b : ByteArray} (h1 : klt a b = false) (h : (a.toList == b.toList) = false) : klt b a = true := by
  cases h2 : klt b a with
  | true => rfl
  | false =>
    have := bl_tot _ _ h1 h2
    rw [this] at h
    simp at h
/-- What first finds. -/
def FstPost (l : List (Int × ByteArray)) (k : Nat) (i : Int) : Prop := (k = 0 ∧ i = -1) ∨ ∃ m : Nat, m < k ∧ i = m ∧ ∀ j, j < k → bef klt (l.getD j zp) (l.getD m zp) = false
theorem fst_turn {l : List (Int × ByteArray)} {k m : Nat} (hm : ∀ j, j < k → bef klt (l.getD j zp) (l.getD m zp) = false) (hb : bef klt (l.getD k zp) (l.getD m zp) = true) : FstPost l (k + 1) k := by
  refine .inr ⟨k, by omega, rfl, fun j hj => ?_⟩
  by_cases e : j = k
  · subst e; exact (bef_ord sord).irr _
  · exact (bef_ord sord).le_tr ((bef_ord sord).asym hb) (hm j (by omega))
theorem fst_stay {l : List (Int × ByteArray)} {k m : Nat} (hk : m < k) (hm : ∀ j, j < k → bef klt (l.getD j zp) (l.getD m zp) = false) (hb : bef klt (l.getD k zp) (l.getD m zp) = false) : FstPost l (k + 1) m := by
  refine .inr ⟨m, by omega, rfl, fun j hj => ?_⟩
  by_cases e : j = k
  · subst e; exact hb
  · exact hm j (by omega)
theorem fst_new {l : List (Int × ByteArray)} : FstPost l 1 (0 : Nat) := by
  refine .inr ⟨0, by omega, rfl, fun j hj => ?_⟩
  obtain rfl : j = 0 := by omega
  exact (bef_ord sord).irr _
set_option maxHeartbeats 2000000 in
set_option maxRecDepth 100000 in
theorem first104 (A : Option Addr) (n c : Nat) (l : List (Int × ByteArray)) (w : World) (B : Nat) (h : RS pc 2 w B A n l) (hB : B ≤ w.heap.size) (hn : n ≤ 9223372036854775807) :
    Calls Try.prog 104 #[.slice A n c] w fun e w' => ∃ i, e = .returned (.int .i64 i) ∧ FstPost l n i ∧ Below w.heap.size w w' := by
  have HL : Hid (l.length = n) := Lib.hid h.2
  go_enter Try.func104, Try.ntmps104
  go_wp2
  go_loopw [3, 8] (fun v3 v8 wr => ∃ (k : Nat) (i : Int), k ≤ n ∧ v8 = .int .i64 k ∧ v3 = .int .i64 i ∧ FstPost l k i ∧ Below w.heap.size w wr) (fun _ v8 _ => n - (intOf v8).toNat)
  case atStart => exact ⟨0, -1, by omega, rfl, rfl, .inl ⟨rfl, rfl⟩, Below.refl _ _⟩
  case round =>
    obtain ⟨k, i, hk, rfl, rfl, hP, hbw⟩ := hrel
    have hsz := hbw.size
    by_cases hlt : k < n
    · have hr := h.below' hbw hB
      obtain ⟨bb, o, hA, hbb, c0, c1⟩ := pair_at hr hlt
      have hki : (k : Int) < (n : Int) := by omega
      have hlb : bb < wr.heap.size := by omega
      have hnb : ¬ wr.heap.size = bb := by omega
      rcases hP with ⟨rfl, rfl⟩ | ⟨m, hm, rfl, hmin⟩
      · have HN := Lib.hid (fst_new (l := l))
        subst hA
        generalize l.getD 0 zp = p at *
        obtain ⟨x, a⟩ := p
        dsimp only at c0 c1
        simp only [Nat.zero_mul, Nat.add_zero] at c0 c1
        go_wp2_with fail
        refine wp_region_quiet_lit (by kernel_rfl) (by kernel_rfl) ?_
        repeat (go_big_quiet_step (fail))
        refine wpQuiet_nil ?_
        intro _ hw'
        obtain ⟨nq, hw''⟩ := hw'
        subst hw''
        go_wp2
        go_roundw
        case rel => exact ⟨1, _, by omega, by go_num, rfl, HN.out, sl_below_drewN (hbw.alloc hsz _) _⟩
        case measure => simp [intOf]; omega
      · obtain ⟨bb', o', hA', hbb', e0, e1⟩ := pair_at hr (show m < n by omega)
        rw [hA] at hA'
        injection hA' with hA'
        injection hA' with q1 q2
        subst q1
        subst q2
        subst hA
        have HT := Lib.hid (fun hb => fst_turn (l := l) (k := k) hmin hb)
        have HS := Lib.hid (fun hb => fst_stay (l := l) hm hmin hb)
        generalize l.getD k zp = p at *
        generalize l.getD m zp = q at *
        obtain ⟨x, a⟩ := p
        obtain ⟨y, b⟩ := q
        dsimp only at c0 c1 e0 e1
        have dm : decide ((m : Int) < 0) = false := by simp
        have hmi : (m : Int) < (n : Int) := by omega
        clear hmin
        cases h1 : (Op.bytesLess a.toList b.toList) with
        | true =>
          have HN := Lib.hid (HT.out (by unfold bef klt; dsimp only; rw [h1]; rfl))
          clear HT HS
          go_wp2_with fail
          refine wp_region_quiet_lit (by kernel_rfl) (by kernel_rfl) ?_
          repeat (go_big_quiet_step (fail))
          refine wpQuiet_nil ?_
          intro _ hw'
          obtain ⟨nq, hw''⟩ := hw'
          subst hw''
          go_wp2
          go_roundw
          case rel => exact ⟨k + 1, _, by omega, by go_num, rfl, HN.out, sl_below_drewN (hbw.alloc hsz _) _⟩
          case measure => simp [intOf]; omega
        | false =>
          cases h2 : (a.toList == b.toList) with
          | true =>
            have h3 : klt b a = false := keq_t h2
            cases h4 : decide (x < y) with
            | true =>
              have HN := Lib.hid (HT.out (by unfold bef; dsimp only; rw [h3, h4]; simp))
              clear HT HS h3
              go_wp2_with fail
              refine wp_region_quiet_lit (by kernel_rfl) (by kernel_rfl) ?_
              repeat (go_big_quiet_step (fail))
              refine wpQuiet_nil ?_
              intro _ hw'
              obtain ⟨nq, hw''⟩ := hw'
              subst hw''
              go_wp2
              go_roundw
              case rel => exact ⟨k + 1, _, by omega, by go_num, rfl, HN.out, sl_below_drewN (hbw.alloc hsz _) _⟩
              case measure => simp [intOf]; omega
            | false =>
              have HN := Lib.hid (HS.out (by unfold bef klt; dsimp only; rw [h1, h4]; simp))
              clear HT HS h3
              go_wp2_with fail
              refine wp_region_quiet_lit (by kernel_rfl) (by kernel_rfl) ?_
              repeat (go_big_quiet_step (fail))
              refine wpQuiet_nil ?_
              intro _ hw'
              obtain ⟨nq, hw''⟩ := hw'
              subst hw''
              go_wp2
              go_roundw
              case rel => exact ⟨k + 1, _, by omega, by go_num, rfl, HN.out, sl_below_drewN (hbw.alloc hsz _) _⟩
              case measure => simp [intOf]; omega
          | false =>
            have h3 : klt b a = true := keq_f h1 h2
            have HN := Lib.hid (HS.out (by unfold bef; dsimp only; rw [h3]; unfold klt; rw [h1]; rfl))
            clear HT HS h3
            go_wp2_with fail
            refine wp_region_quiet_lit (by kernel_rfl) (by kernel_rfl) ?_
            repeat (go_big_quiet_step (fail))
            refine wpQuiet_nil ?_
            intro _ hw'
            obtain ⟨nq, hw''⟩ := hw'
            subst hw''
            go_wp2
            go_roundw
            case rel => exact ⟨k + 1, _, by omega, by go_num, rfl, HN.out, sl_below_drewN (hbw.alloc hsz _) _⟩
            case measure => simp [intOf]; omega
    · obtain rfl : k = n := by omega
      go_wp2
      go_ret
      exact ⟨_, rfl, hP, hbw⟩
end Go.Proofs.Ytenhcpobncmedaa.HS
