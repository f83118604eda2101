/- Contracts of ringlaw4.sameWords, sameNeeds, sameBytes and sameObject at objects that read alike. -/
import Derived.Test.YtplfdibbnkjckaaObB
namespace Go.Proofs.Ytplfdibbnkjckaa
open Go.RowKit
set_option maxHeartbeats 400000
set_option linter.unusedVariables false
set_option linter.unusedSimpArgs false
def SameB (w : World) (e : Ending) (w' : World) : Prop := e = .returned (.bool true) ∧ Below w.heap.size w w'
/-- A slice of words that reads as ws. -/
def RW (w : World) (B : Nat) (A : Option Addr) (n : Nat) (ws : List Int) : Prop := Reads w B 1 A n (ws.map (Value.int .u32))
theorem RW.len {w : World} {B n : Nat} {A : Option Addr} {xs : List Int} (h : RW w B A n xs) : xs.length = n := by simpa using h.1
theorem RW.at_ {w : World} {B n i : Nat} {A : Option Addr} {xs : List Int} (h : RW w B A n xs) (hi : i < n) : ∃ b o, A = some ⟨b, o, none⟩ ∧ b < B ∧ w.cell? ⟨b, o + i, none⟩ = some (.int .u32 (xs.getD i 0)) := by
  obtain ⟨b, o, u, e, hb, hx, hc⟩ := Reads.at_ h hi
  have hl : i < xs.length := by rw [h.len]; exact hi
  have hu : u = .int .u32 (xs.getD i 0) := by
    rw [List.getElem?_map, List.getElem?_eq_getElem hl] at hx
    simp [List.getD, List.getElem?_eq_getElem hl]
    simpa using hx.symm
  subst hu
  exact ⟨b, o, e, hb, hc⟩
theorem RW.below' {w w' : World} {B B' n : Nat} {A : Option Addr} {xs : List Int} (h : RW w B A n xs) (hb : Below B' w w') (hB : B ≤ B') : RW w' B A n xs := Reads.below' h hb hB
set_option maxRecDepth 100000 in
theorem sameWords_same (A A' : Option Addr) (n c c' : Nat) (xs : List Int) (w : World) (h : RW w w.heap.size A n xs) (h' : RW w w.heap.size A' n xs) (hn : n ≤ 9223372036854775807) :
    Calls Try.prog 18 #[.slice A n c, .slice A' n c'] w (SameB w) := by
  go_enter Try.func18, Try.ntmps18
  go_wp2
  go_loopw [13] (fun i wr => ∃ k : Nat, k ≤ n ∧ i = .int .i64 k ∧ Below w.heap.size w wr) (fun i _ => n - (intOf i).toNat)
  case atStart => exact ⟨0, by omega, rfl, Below.refl _ _⟩
  case round =>
    obtain ⟨k, hk, rfl, hbw⟩ := hrel
    by_cases hlt : k < n
    · obtain ⟨b, o, rfl, hb, c0⟩ := (h.below' hbw (Nat.le_refl _)).at_ hlt
      obtain ⟨b', o', rfl, hb', d0⟩ := (h'.below' hbw (Nat.le_refl _)).at_ hlt
      generalize xs.getD k 0 = r at *
      have hkn : (k : Int) < n := by omega
      have hk0 : (0 : Int) ≤ k := by omega
      have hnn : (r != r) = false := by simp
      go_wp2
      go_quiet (fail)
      go_wp2
      go_roundw
      case rel => exact ⟨k + 1, by omega, by go_num, below_drewN hbw _⟩
      case measure => simp [intOf]; omega
    · go_wp2
      go_ret
      exact ⟨rfl, hbw⟩
set_option maxRecDepth 100000 in
theorem sameNeeds_same (A A' : Option Addr) (n c c' : Nat) (ds : List Nd) (w : World) (h : RD w w.heap.size A n ds) (h' : RD w w.heap.size A' n ds) (hn : n ≤ 9223372036854775807) :
    Calls Try.prog 19 #[.slice A n c, .slice A' n c'] w (SameB w) := by
  go_enter Try.func19, Try.ntmps19
  go_wp2
  go_loopw [13] (fun i wr => ∃ k : Nat, k ≤ n ∧ i = .int .i64 k ∧ Below w.heap.size w wr) (fun i _ => n - (intOf i).toNat)
  case atStart => exact ⟨0, by omega, rfl, Below.refl _ _⟩
  case round =>
    obtain ⟨k, hk, rfl, hbw⟩ := hrel
    by_cases hlt : k < n
    · obtain ⟨b, o, rfl, hb, _, c0, c1, c2⟩ := (h.below' hbw (Nat.le_refl _)).at_ hlt
      obtain ⟨b', o', rfl, hb', _, d0, d1, d2⟩ := (h'.below' hbw (Nat.le_refl _)).at_ hlt
      generalize ds.getD k .zero = r at *
      have hkn : (k : Int) < n := by omega
      have hk0 : (0 : Int) ≤ k := by omega
      go_wp2
      go_quiet (fail)
      go_wp2
      go_roundw
      case rel => exact ⟨k + 1, by omega, by go_num, below_drewN hbw _⟩
      case measure => simp [intOf]; omega
    · go_wp2
      go_ret
      exact ⟨rfl, hbw⟩
theorem sameBytes_same (A A' : Option Addr) (n c n' c' : Nat) (xs : List Int) (w : World) (B B' : Nat) (h : RB w B A n xs) (h' : RB w B' A' n' xs) :
    Calls Try.prog 20 #[.slice A n c, .slice A' n' c'] w (SameB w) := by
  have e1 := h.conv (P := Try.prog) c 33 9 5 Try.underlying33 Try.underlying5 Try.underlying9
  have e2 := h'.conv (P := Try.prog) c' 33 9 5 Try.underlying33 Try.underlying5 Try.underlying9
  go_enter Try.func20, Try.ntmps20
  go_wp2
  go_ret
  exact ⟨ob_bool (by simp), Below.refl _ _⟩
/-- All of an object, read. -/
structure Ob.Full (o : Ob) (w : World) (B : Nat) (ws bs : List Int) : Prop where
  read : o.Read w B
  rw : RW w B o.A0 o.n0 ws
  rb : RB w B o.A1 o.n1 bs
theorem Ob.Full.below' {o : Ob} {w w' : World} {B B' : Nat} {ws bs : List Int} (h : o.Full w B ws bs) (hb : Below B' w w') (hB : B ≤ B') : o.Full w' B ws bs := ⟨h.read.below' hb hB, h.rw.below' hb hB, h.rb.below' hb hB⟩
theorem RN.more {w : World} {B B' n : Nat} {A : Option Addr} {ns : List Nm} (h : RN w B A n ns) (hB : B ≤ B') : RN w B' A n ns := ⟨h.1.more hB, h.2⟩
theorem RD.more {w : World} {B B' n : Nat} {A : Option Addr} {ns : List Nd} (h : RD w B A n ns) (hB : B ≤ B') : RD w B' A n ns := ⟨h.1.more hB, h.2⟩
theorem Ob.Full.more {o : Ob} {w : World} {B B' : Nat} {ws bs : List Int} (h : o.Full w B ws bs) (hB : B ≤ B') : o.Full w B' ws bs := ⟨⟨h.read.ns.more hB, h.read.ds.more hB, h.read.m0, h.read.m1, h.read.m2, h.read.m3⟩, Reads.more h.rw hB, h.rb.more hB⟩
theorem Blk.growD {w w' : World} {g : Nat} {cs : Array Value} {t : TypeId} (h : Blk w g cs t) (hb : Below w.heap.size w w') : Blk w' g cs t := h.fr (Fr.of_grow hb) (fun h => h)
set_option maxHeartbeats 4000000 in
set_option maxRecDepth 100000 in
theorem sameObject_same (o o' : Ob) (ws bs : List Int) (w : World) (h : o.Full w w.heap.size ws bs) (h' : o'.Full w w.heap.size ws bs) (hn : o'.ns = o.ns) (hd : o'.ds = o.ds) :
    Calls Try.prog 14 #[.agg o.vals, .agg o'.vals] w (SameB w) := by
  obtain ⟨A0, n0, c0, A1, n1, c1, A2, n2, c2, A3, n3, c3, ns, ds⟩ := o
  obtain ⟨A0', n0', c0', A1', n1', c1', A2', n2', c2', A3', n3', c3', ns', ds'⟩ := o'
  dsimp only at hn hd
  subst hn
  subst hd
  have hW1 := (Blk.new w #[.slice A0 n0 c0, .slice A1 n1 c1, .slice A2 n2 c2, .slice A3 n3 c3] 37).alloc (.cells #[.slice A0' n0' c0', .slice A1' n1' c1', .slice A2' n2' c2', .slice A3' n3' c3'] 37)
  have hW2 := Blk.new (w.alloc (.cells #[.slice A0 n0 c0, .slice A1 n1 c1, .slice A2 n2 c2, .slice A3 n3 c3] 37)) #[.slice A0' n0' c0', .slice A1' n1' c1', .slice A2' n2' c2', .slice A3' n3' c3'] 37
  have hB0 : Below w.heap.size w ((w.alloc (.cells #[.slice A0 n0 c0, .slice A1 n1 c1, .slice A2 n2 c2, .slice A3 n3 c3] 37)).alloc (.cells #[.slice A0' n0' c0', .slice A1' n1' c1', .slice A2' n2' c2', .slice A3' n3' c3'] 37)) := ((Below.refl _ _).alloc (Nat.le_refl _) _).alloc (by simp) _
  simp only [World.size_alloc] at hW2
  have H := Lib.hid (h.below' hB0 (Nat.le_refl _))
  have H' := Lib.hid (h'.below' hB0 (Nat.le_refl _))
  obtain rfl : n0 = n0' := h.rw.len.symm.trans h'.rw.len
  obtain rfl : n1 = n1' := h.rb.len.symm.trans h'.rb.len
  obtain rfl : n2 = n2' := h.read.ns.len.symm.trans h'.read.ns.len
  obtain rfl : n3 = n3' := h.read.ds.len.symm.trans h'.read.ds.len
  have m0 := h.read.m0
  have m2 := h.read.m2
  have m3 := h.read.m3
  dsimp only at m0 m2 m3
  clear h h'
  dsimp only [Ob.vals]
  have hw0 : w.heap.size ≤ ((w.alloc (.cells #[.slice A0 n0 c0, .slice A1 n1 c1, .slice A2 n2 c2, .slice A3 n3 c3] 37)).alloc (.cells #[.slice A0' n0 c0', .slice A1' n1 c1', .slice A2' n2 c2', .slice A3' n3 c3'] 37)).heap.size := hB0.size
  have hc1 := hW1.cell
  have hc2 := hW2.cell
  go_enter Try.func14, Try.ntmps14
  go_wp2_with fail
  refine (sameWords_same _ _ _ _ _ ws _ (Reads.more H.out.rw hw0) (Reads.more H'.out.rw hw0) m0).mono ?_
  rintro e w1 ⟨rfl, hb1⟩
  have hX1 := Blk.growD hW1 hb1
  have hX2 := Blk.growD hW2 hb1
  have hB1 := hB0.trans (hb1.mono hw0)
  have H1 := Lib.hid (H.out.below' (hb1.mono hw0) (Nat.le_refl _))
  have H1' := Lib.hid (H'.out.below' (hb1.mono hw0) (Nat.le_refl _))
  clear hc1 hc2 hW1 hW2 H H' hB0 hw0 hb1
  have hc1 := hX1.cell
  have hc2 := hX2.cell
  have hw1 := hB1.size
  go_wp2_with fail
  refine (sameNeeds_same _ _ _ _ _ ds' _ (H1.out.read.ds.more hw1) (H1'.out.read.ds.more hw1) m3).mono ?_
  rintro e w2 ⟨rfl, hb2⟩
  have hY1 := Blk.growD hX1 hb2
  have hY2 := Blk.growD hX2 hb2
  have hB2 := hB1.trans (hb2.mono hw1)
  have H2 := Lib.hid (H1.out.below' (hb2.mono hw1) (Nat.le_refl _))
  have H2' := Lib.hid (H1'.out.below' (hb2.mono hw1) (Nat.le_refl _))
  clear hc1 hc2 hX1 hX2 H1 H1' hB1 hw1 hb2
  have hc1 := hY1.cell
  have hc2 := hY2.cell
  have hw2 := hB2.size
  go_wp2_with fail
  refine (sameBytes_same _ _ _ _ _ _ bs _ _ _ H2.out.rb H2'.out.rb).mono ?_
  rintro e w3 ⟨rfl, hb3⟩
  have hZ1 := Blk.growD hY1 hb3
  have hZ2 := Blk.growD hY2 hb3
  have hB3 := hB2.trans (hb3.mono hw2)
  have H3 := Lib.hid (H2.out.below' (hb3.mono hw2) (Nat.le_refl _))
  have H3' := Lib.hid (H2'.out.below' (hb3.mono hw2) (Nat.le_refl _))
  clear hc1 hc2 hY1 hY2 H2 H2' hB2 hw2 hb3
  have hc1 := hZ1.cell
  have hc2 := hZ2.cell
  have hw3 := hB3.size
  have HZ1 := Lib.hid hZ1
  have HZ2 := Lib.hid hZ2
  go_wp2
  clear hc1 hc2 hZ1 hZ2
  go_loopw [40] (fun i wr => ∃ k : Nat, k ≤ n2 ∧ i = .int .i64 k ∧ Below w3.heap.size w3 wr) (fun i _ => n2 - (intOf i).toNat)
  case atStart => exact ⟨0, by omega, rfl, Below.refl _ _⟩
  case round =>
    obtain ⟨k, hk, rfl, hbw⟩ := hrel
    have hZ1 := Blk.growD HZ1.out hbw
    have hZ2 := Blk.growD HZ2.out hbw
    have hc1 := hZ1.cell
    have hc2 := hZ2.cell
    have hl1 := hZ1.lt
    have hl2 := hZ2.lt
    have hsz := hbw.size
    by_cases hlt : k < n2
    · obtain ⟨b, o, rfl, hb, _, x0, x1, x2, x3⟩ := (H3.out.read.ns.below' (hbw.mono hw3) (Nat.le_refl _)).at_ hlt
      obtain ⟨b', o', rfl, hb', _, y0, y1, y2, y3⟩ := (H3'.out.read.ns.below' (hbw.mono hw3) (Nat.le_refl _)).at_ hlt
      dsimp only at x0 x1 x2 x3 y0 y1 y2 y3
      generalize ns'.getD k .zero = r at *
      have hkn : (k : Int) < n2 := by omega
      have hk0 : (0 : Int) ≤ k := by omega
      clear hZ1 hZ2
      go_wp2
      go_quiet (fail)
      go_wp2
      go_roundw
      case rel => exact ⟨k + 1, by omega, by go_num, below_drewN hbw _⟩
      case measure => simp [intOf]; omega
    · go_wp2
      go_ret
      exact ⟨rfl, hB3.trans (hbw.mono hw3)⟩
end Go.Proofs.Ytplfdibbnkjckaa
