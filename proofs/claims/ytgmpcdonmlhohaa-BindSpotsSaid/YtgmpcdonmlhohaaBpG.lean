/- The law ringlaw4.BindSpots. -/
import Derived.Test.YtgmpcdonmlhohaaBpF
import Derived.Test.YtgmpcdonmlhohaaObW
import Derived.Test.YtgmpcdonmlhohaaObC
import Derived.Test.YtgmpcdonmlhohaaNear
namespace Go.Proofs.Ytgmpcdonmlhohaa
open Go.RowKit
set_option maxHeartbeats 400000
set_option linter.unusedVariables false
set_option linter.unusedSimpArgs false
/-- Spots, read. -/
structure SpotP where
  a : Int
  b : Int
def SpotP.cells (x : SpotP) : List Value := [.int .i64 x.a, .int .i64 x.b]
theorem spC_pairs (f g : Nat → Int) (n : Nat) : spC f g n = ((List.range n).map fun i => (⟨f i, g i⟩ : SpotP)).flatMap SpotP.cells := by
  unfold spC; rw [List.flatMap_map]; rfl
theorem spL_pairs (os : List Ob) : ∃ l : List SpotP, l.length = spN os ∧ spL os = l.flatMap SpotP.cells := by
  unfold spN spL
  split
  · exact ⟨_, by simp, spC_pairs _ _ _⟩
  · exact ⟨[], rfl, rfl⟩
theorem spN_le (os : List Ob) : spN os ≤ 12 := by
  unfold spN
  split
  · rename_i h
    unfold spErr at h
    split at h
    · rename_i h'; exact (parts_zero h').1
    · rename_i h'; exact absurd h h'
  · omega
theorem rs_en_at {w : World} {B n i : Nat} {A : Option Addr} {l : List En} (h : RS En.cells 3 w B A n l) (hi : i < n) :
    ∃ b o, A = some ⟨b, o, none⟩ ∧ b < B ∧ w.cell? ⟨b, o + i * 3, none⟩ = some (.string (l.getD i .zero).s) ∧ w.cell? ⟨b, o + i * 3 + 1, none⟩ = some (.int .i64 (l.getD i .zero).part) ∧ w.cell? ⟨b, o + i * 3 + 2, none⟩ = some (.int .i64 (l.getD i .zero).ad) := by
  obtain ⟨b, o, e, hb, hm, hc⟩ := RS.at_ (cl := En.cells) (s := 3) (fun _ => rfl) En.zero h hi
  exact ⟨b, o, e, hb, hc 0 _ rfl, hc 1 _ rfl, hc 2 _ rfl⟩
theorem rs_sp_at {w : World} {B n i : Nat} {A : Option Addr} {l : List SpotP} (h : RS SpotP.cells 2 w B A n l) (hi : i < n) :
    ∃ b o, A = some ⟨b, o, none⟩ ∧ b < B ∧ w.cell? ⟨b, o + i * 2, none⟩ = some (.int .i64 (l.getD i ⟨0, 0⟩).a) ∧ w.cell? ⟨b, o + i * 2 + 1, none⟩ = some (.int .i64 (l.getD i ⟨0, 0⟩).b) := by
  obtain ⟨b, o, e, hb, hm, hc⟩ := RS.at_ (cl := SpotP.cells) (s := 2) (fun _ => rfl) ⟨0, 0⟩ h hi
  exact ⟨b, o, e, hb, hc 0 _ rfl, hc 1 _ rfl⟩
theorem plL_len {w : World} {B : Nat} {v : Value} {os : List Ob} (h : Row w B 58 3 v (plL os).length ((plL os).flatMap En.cells)) : (plL os).length ≤ 9223372036854775807 := by
  obtain ⟨A, c, _, h1, h2⟩ := h.shape
  unfold maxLen at h2; omega
set_option maxHeartbeats 2000000 in
set_option maxRecDepth 100000 in
theorem law_bindSpots (A : Option Addr) (n c : Nat) (os : List Ob) (w : World) (h : RO w w.heap.size A n os) (hn : n ≤ 9223372036854775807) :
    Calls Try.prog 6 #[.slice A n c] w fun e w' => e = .returned (.bool true) ∧ Below w.heap.size w w' := by
  have h1 : ∀ (o : Ob) (w : World) (B : Nat), o.Read w B → B ≤ w.heap.size → Calls Try.prog 15 #[.agg o.vals] w (ErrPost w (objErr o)) := check_any
  have h2 : ∀ (o : Ob) (w : World) (B : Nat), o.Read w B → B ≤ w.heap.size → o.n2 ≤ o.c2 → o.c2 ≤ 9223372036854775807 → Calls Try.prog 16 #[.agg o.vals] w (ErrPost w (objErr o)) := fault_any
  have HA := Lib.hid (fun W (hb : Below w.heap.size w W) => spots_any h1 A n c os W w.heap.size (h.below' hb (Nat.le_refl _)) hb.size hn)
  have HB := Lib.hid (fun W (hb : Below w.heap.size w W) => bindSpots_any h2 A n c os W w.heap.size (h.below' hb (Nat.le_refl _)) hb.size hn)
  have HC := Lib.hid (fun W (hb : Below w.heap.size w W) => places_any h1 A n c os W w.heap.size (h.below' hb (Nat.le_refl _)) hb.size hn)
  have HD := Lib.hid (fun W (hb : Below w.heap.size w W) => bindPlaces_any h2 A n c os W w.heap.size (h.below' hb (Nat.le_refl _)) hb.size hn)
  unfold SpPost at HA HB
  unfold PlPost at HC HD
  have hN := spN_le os
  obtain ⟨l, hll, hlp⟩ := spL_pairs os
  rw [hlp] at HA HB
  rw [← hll] at HA HB hN
  have HPL := Lib.hid (fun w B v h => plL_len (w := w) (B := B) (v := v) (os := os) h)
  generalize spT os = T at *
  generalize spErr os = E at *
  generalize plErr os = F at *
  generalize plL os = pl at *
  clear h1 h2 hlp hll h
  have hT : (T != T) = false := by simp
  have hE : (E != E) = false := by simp
  have hF : (F != F) = false := by simp
  have hNN : ((l.length : Int) != l.length) = false := by simp
  have hPP : ((pl.length : Int) != pl.length) = false := by simp
  go_enter Try.func6, Try.ntmps6
  go_wp2_with fail
  refine (HA.out _ (Below.refl _ _)).mono ?_
  rintro e w1 ⟨v1, rfl, hr1, hb1⟩
  obtain ⟨A1, c1, rfl, hc11, hc12⟩ := hr1.shape
  go_wp2_with fail
  refine (HB.out _ hb1).mono ?_
  rintro e w2 ⟨v2, rfl, hr2, hb2⟩
  obtain ⟨A2, c2, rfl, hc21, hc22⟩ := hr2.shape
  have hbw2 := hb1.trans (hb2.mono hb1.size)
  go_wp2_with fail
  refine (HC.out _ hbw2).mono ?_
  rintro e w3 ⟨v3, rfl, hr3, hb3⟩
  obtain ⟨A3, c3, rfl, hc31, hc32⟩ := hr3.shape
  have hbw3 := hbw2.trans (hb3.mono hbw2.size)
  go_wp2_with fail
  refine (HD.out _ hbw3).mono ?_
  rintro e w4 ⟨v4, rfl, hr4, hb4⟩
  obtain ⟨A4, c4, rfl, hc41, hc42⟩ := hr4.shape
  have hbw4 := hbw3.trans (hb4.mono hbw3.size)
  have s12 := hb2.size
  have s23 := hb3.size
  have s34 := hb4.size
  have hpl := HPL.out _ _ _ hr3
  have q1 : RS SpotP.cells 2 w4 w4.heap.size A1 l.length l := ⟨((((Reads.below' hr1.reads hb2 (Nat.le_refl _)).below' hb3 s12).below' hb4 (by omega)).more (by omega)), rfl⟩
  have q2 : RS SpotP.cells 2 w4 w4.heap.size A2 l.length l := ⟨(((Reads.below' hr2.reads hb3 (Nat.le_refl _)).below' hb4 (by omega)).more (by omega)), rfl⟩
  have q3 : RS En.cells 3 w4 w4.heap.size A3 pl.length pl := ⟨((Reads.below' hr3.reads hb4 (Nat.le_refl _)).more (by omega)), rfl⟩
  have q4 : RS En.cells 3 w4 w4.heap.size A4 pl.length pl := ⟨hr4.reads, rfl⟩
  have Q1 := Lib.hid q1
  have Q2 := Lib.hid q2
  have Q3 := Lib.hid q3
  have Q4 := Lib.hid q4
  have HW := Lib.hid hbw4
  have hsw := hbw4.size
  clear q1 q2 q3 q4 hr1 hr2 hr3 hr4 hb1 hb2 hb3 hb4 hbw2 hbw3 hbw4 HA HB HC HD
  generalize hLL : l.length = LL at *
  generalize hPL : pl.length = PL at *
  have HLL := Lib.hid hLL
  have HPL' := Lib.hid hPL
  clear hLL hPL
  go_wp2
  go_loopw [66] (fun i wr => ∃ k : Nat, k ≤ LL ∧ i = .int .i64 k ∧ Below w4.heap.size w4 wr) (fun i _ => LL - (intOf i).toNat)
  case atStart => exact ⟨0, by omega, rfl, Below.refl _ _⟩
  case round =>
    obtain ⟨k, hk, rfl, hbw⟩ := hrel
    by_cases hlt : k < LL
    · obtain ⟨b, o, rfl, hb, y0, y1⟩ := rs_sp_at (⟨Reads.below' Q1.out.1 hbw (Nat.le_refl _), Q1.out.2⟩ : RS SpotP.cells 2 wr w4.heap.size _ LL l) hlt
      obtain ⟨b', o', rfl, hb', z0, z1⟩ := rs_sp_at (⟨Reads.below' Q2.out.1 hbw (Nat.le_refl _), Q2.out.2⟩ : RS SpotP.cells 2 wr w4.heap.size _ LL l) hlt
      generalize l.getD k ⟨0, 0⟩ = r at *
      have hkn : (k : Int) < LL := by omega
      have hk0 : (0 : Int) ≤ k := by omega
      go_wp2
      go_quiet (fail)
      go_wp2
      go_roundw
      case rel => exact ⟨k + 1, by omega, by go_num, below_drewN hbw _⟩
      case measure => simp [intOf]; omega
    · go_wp2
      go_loopw [81] (fun i wr => ∃ k : Nat, k ≤ PL ∧ i = .int .i64 k ∧ Below w4.heap.size w4 wr) (fun i _ => PL - (intOf i).toNat)
      case atStart => exact ⟨0, by omega, rfl, hbw⟩
      case round =>
        clear hbw hlt
        obtain ⟨j, hj, rfl, hbw⟩ := hrel
        by_cases hlt : j < PL
        · obtain ⟨b, o, rfl, hb, y0, y1, y2⟩ := rs_en_at (⟨Reads.below' Q3.out.1 hbw (Nat.le_refl _), Q3.out.2⟩ : RS En.cells 3 wr w4.heap.size _ PL pl) hlt
          obtain ⟨b', o', rfl, hb', z0, z1, z2⟩ := rs_en_at (⟨Reads.below' Q4.out.1 hbw (Nat.le_refl _), Q4.out.2⟩ : RS En.cells 3 wr w4.heap.size _ PL pl) hlt
          generalize pl.getD j .zero = r at *
          have hkn : (j : Int) < PL := by omega
          have hk0 : (0 : Int) ≤ j := by omega
          go_wp2
          go_quiet (fail)
          go_wp2
          go_roundw
          case rel => exact ⟨j + 1, by omega, by go_num, below_drewN hbw _⟩
          case measure => simp [intOf]; omega
        · have hfin := Lib.hid (HW.out.trans (hbw.mono hsw))
          go_wp2
          go_ret
          exact ⟨rfl, hfin.out⟩
end Go.Proofs.Ytgmpcdonmlhohaa
