/- The law ringlaw4.BindLinked. -/
import Derived.Test.YtmndmdipjfblhaaBlI
import Derived.Test.YtmndmdipjfblhaaBlJ
import Derived.Test.YtmndmdipjfblhaaObW
import Derived.Test.YtmndmdipjfblhaaObC
namespace Go.Proofs.Ytmndmdipjfblhaa
open Go.RowKit
set_option maxHeartbeats 400000
set_option linter.unusedVariables false
set_option linter.unusedSimpArgs false
theorem byL_byt {fs : List Fo} (h : ∀ f ∈ fs, Byt f.bs) : Byt (byL fs) := by
  unfold byL
  split
  · exact outTo_byt h _
  · intro x hx; cases hx
theorem lkM_le (fs : List Fo) : lkM fs ≤ 4000 := by
  unfold lkM
  split
  · rename_i h
    have hb : byErr fs = 0 := by
      unfold lkErr at h
      split at h
      · assumption
      · rename_i h'; exact absurd h h'
    have h1 := (by_zero hb).2
    have h2 := (sp_zero (pl_zero (by_zero hb).1).1).2
    omega
  · omega
set_option maxHeartbeats 2000000 in
set_option maxRecDepth 100000 in
theorem law_bindLinked (A : Option Addr) (n c : Nat) (fs : List Fo) (w : World) (h : RF w w.heap.size A n fs) (hn : n ≤ 9223372036854775807) :
    Calls Try.prog 4 #[.slice A n c] w fun e w' => e = .returned (.bool true) ∧ Below w.heap.size w w' := by
  have h1 : ∀ (o : Ob) (w : World) (B : Nat), o.Read w B → B ≤ w.heap.size → Calls Try.prog 21 #[.agg o.vals] w (ErrPost w (objErr o)) := check_any
  have h2 : ∀ (o : Ob) (w : World) (B : Nat), o.Read w B → B ≤ w.heap.size → o.n2 ≤ o.c2 → o.c2 ≤ 9223372036854775807 → Calls Try.prog 22 #[.agg o.vals] w (ErrPost w (objErr o)) := fault_any
  have HF := fun W (hb : Below w.heap.size w W) => (show RF W W.heap.size A n fs from ⟨(h.below' hb (Nat.le_refl _)).1.more hb.size, fun f hf => ((h.below' hb (Nat.le_refl _)).2 f hf).more hb.size⟩)
  have HA := Lib.hid (fun W (hb : Below w.heap.size w W) => bytes_any h1 A n c fs W W.heap.size (HF W hb) (Nat.le_refl _) hn)
  have HB := Lib.hid (fun W (hb : Below w.heap.size w W) => bindBytes_any h2 A n c fs W W.heap.size (HF W hb) (Nat.le_refl _) hn)
  have HC := Lib.hid (fun W (hb : Below w.heap.size w W) => link_any h1 A n c fs W (HF W hb) hn)
  have HD := Lib.hid (fun W (hb : Below w.heap.size w W) => bindLink_any h2 A n c fs W (HF W hb) hn)
  have HBT := Lib.hid (byL_byt (fun f hf => (h.2 f hf).rb.2))
  have HM := Lib.hid (lkM_le fs)
  unfold ByPost at HA HB
  unfold ImPost at HC HD
  generalize byErr fs = E at *
  generalize lkErr fs = F at *
  generalize lkEnt fs = ent at *
  generalize lkM fs = m at *
  generalize endOf fs = en at *
  generalize byL fs = bs at *
  have hE : (E == E) = true := by simp
  have hF : (F == F) = true := by simp
  clear h1 h2 HF h
  obtain ⟨bn, hbn⟩ : ∃ bn, bs.length = bn := ⟨_, rfl⟩
  rw [hbn] at HA HB
  clear hbn
  go_enter Try.func4, Try.ntmps4
  go_wp2_with fail
  refine (HA.out _ (Below.refl _ _)).mono ?_
  rintro e w1 ⟨v1, rfl, hr1, hb1⟩
  obtain ⟨A1, c1, rfl, hc11, hc12⟩ := hr1.shape
  go_wp2_with fail
  refine (HB.out _ hb1).mono ?_
  rintro e w2 ⟨v2, rfl, hr2, hb2⟩
  obtain ⟨A2, c2, rfl, hc21, hc22⟩ := hr2.shape
  have hbw2 := hb1.trans (hb2.mono hb1.size)
  have q1 := hr1.grow hb2
  clear hr1 hb1
  go_wp2_with fail
  refine (HC.out _ hbw2).mono ?_
  rintro e w3 ⟨A3, n3, c3, gs3, rfl, hn3, hp3, hk3, hb3⟩
  replace hn3 := Lib.hid hn3
  have hbw3 := hbw2.trans (hb3.mono hbw2.size)
  have q2 := q1.grow hb3
  have r2 := hr2.grow hb3
  clear q1 hr2 hb2 hbw2
  have hx3 : Below w3.heap.size w3 (w3.alloc (.cells #[.int .u32 ent, .slice A3 n3 c3] 41)) := (Below.refl _ _).alloc (Nat.le_refl _) _
  have hi3 : Blk (w3.alloc (.cells #[.int .u32 ent, .slice A3 n3 c3] 41)) w3.heap.size #[.int .u32 ent, .slice A3 n3 c3] 41 := Blk.new _ _ _
  have q3 := q2.grow hx3
  have r3 := r2.grow hx3
  have p3 := hp3.grow hx3
  have hbx3 := hbw3.trans (hx3.mono hbw3.size)
  clear q2 r2 hp3 hb3 hbw3
  go_wp2_with fail
  refine (HD.out _ hbx3).mono ?_
  rintro e w4 ⟨A4, n4, c4, gs4, rfl, hn4, hp4, hk4, hb4⟩
  replace hn4 := Lib.hid hn4
  have hx4 : Below w4.heap.size w4 (w4.alloc (.cells #[.int .u32 ent, .slice A4 n4 c4] 41)) := (Below.refl _ _).alloc (Nat.le_refl _) _
  have hi4 : Blk (w4.alloc (.cells #[.int .u32 ent, .slice A4 n4 c4] 41)) w4.heap.size #[.int .u32 ent, .slice A4 n4 c4] 41 := Blk.new _ _ _
  have q4 := (q3.grow hb4).grow hx4
  have r4 := (r3.grow hb4).grow hx4
  have s4 := (p3.grow hb4).grow hx4
  have t4 := hp4.grow hx4
  have i34 := (hi3.fr (Fr.of_grow hb4) (fun h => h)).fr (Fr.of_grow hx4) (fun h => h)
  have hbw4 := hbx3.trans ((hb4.trans (hx4.mono hb4.size)).mono hbx3.size)
  have hz4 := hb4.size
  clear q3 r3 p3 hp4 hi3 hx3 hbx3 hb4 hx4
  have hB := sameBytes_same A1 A2 bn c1 bn c2 bs _ _ _ ⟨q4.reads, HBT.out⟩ ⟨r4.reads, HBT.out⟩
  unfold SameB at hB
  have hc3 := i34.cell
  have hl3 := i34.lt
  have hc4 := hi4.cell
  have hl4 := hi4.lt
  clear q4 r4
  go_wp2_with fail
  refine hB.mono ?_
  rintro e w5 ⟨rfl, hb5⟩
  have hS := sameImage_same ent A3 A4 n3 c3 n4 c4 _ _ m en bs gs3 gs4 w5 (s4.grow hb5) (t4.grow hb5) hn3.out hn4.out hk3 hk4 HM.out
  unfold SameB at hS
  have hc5 := (i34.fr (Fr.of_grow hb5) (fun h => h)).cell
  have hc6 := (hi4.fr (Fr.of_grow hb5) (fun h => h)).cell
  have hl5 := (i34.fr (Fr.of_grow hb5) (fun h => h)).lt
  have hl6 := (hi4.fr (Fr.of_grow hb5) (fun h => h)).lt
  have hbw5 := hbw4.trans (hb5.mono hbw4.size)
  clear hc3 hc4 hl3 hl4 i34 hi4 hb5 s4 t4
  go_wp2_with fail
  refine hS.mono ?_
  rintro e w6 ⟨rfl, hb6⟩
  have hfin := Lib.hid (hbw5.trans (hb6.mono hbw5.size))
  clear hb6
  go_wp2
  go_ret
  exact ⟨rfl, hfin.out⟩
end Go.Proofs.Ytmndmdipjfblhaa
