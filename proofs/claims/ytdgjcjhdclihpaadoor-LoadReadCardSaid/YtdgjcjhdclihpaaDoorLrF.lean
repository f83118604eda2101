/- The law ringlaw4.LoadRead f4. -/
import Derived.Test.YtdgjcjhdclihpaaDoorLrE
namespace Go.Proofs.YtdgjcjhdclihpaaDoor
open Go.RowKit
set_option maxHeartbeats 400000
set_option linter.unusedVariables false
set_option linter.unusedSimpArgs false
theorem rp_grow {w w' : World} {n : Nat} {A : Option Addr} {gs : List Pg} (h : RP w w.heap.size A n gs) (hb : Below w.heap.size w w') : RP w' w'.heap.size A n gs := by
  have h1 := h.below' hb (Nat.le_refl _)
  exact ⟨h1.1.more hb.size, h1.2.1, fun g hg => ⟨(h1.2.2 g hg).1.more hb.size, (h1.2.2 g hg).2⟩⟩
set_option maxHeartbeats 4000000 in
set_option maxRecDepth 100000 in
theorem law_loadRead (A : Option Addr) (n c : Nat) (xs : List Int) (w : World) (h : RB w w.heap.size A n xs) (hnc : n ≤ c) (hcm : c ≤ 9223372036854775807) :
    Calls Tryd.prog 4 #[.slice A n c] w fun er w' => er = .returned (.bool true) ∧ Below w.heap.size w w' := by
  have HIM := Lib.hid (image_any A n c xs w h hnc hcm)
  have HH := Lib.hid h
  clear h
  go_enter Tryd.func4, Tryd.ntmps4
  go_wp2_with fail
  refine HIM.out.mono ?_
  rintro er w1 ⟨e1, A1, n1, c1, gs1, x1, rfl, hi1, hr1, hn1, hb1⟩
  obtain ⟨w2, hw2⟩ : ∃ w2, w2 = w1.alloc (.cells #[.int .u32 e1, .slice A1 n1 c1] 25) := ⟨_, rfl⟩
  have hb12 : Below w1.heap.size w1 w2 := by rw [hw2]; exact (Below.refl _ _).alloc (Nat.le_refl _) _
  have hx2 : Blk w2 w1.heap.size #[.int .u32 e1, .slice A1 n1 c1] 25 := by rw [hw2]; exact Blk.new _ _ _
  have HB2 : Hid (Below w.heap.size w w2) := Lib.hid (hb1.trans (hb12.mono hb1.size))
  have HR2 := Lib.hid (rp_grow hr1 hb12)
  have HLO := Lib.hid (loadOf_any A n c xs w2 ((HH.out.below' HB2.out (Nat.le_refl _)).more HB2.out.size) hnc hcm)
  have HI1 := Lib.hid hi1
  have HW2 := Lib.hid hw2
  obtain ⟨g1, hg1⟩ : ∃ g, w1.heap.size = g := ⟨_, rfl⟩
  rw [hg1] at hx2
  have HX2 := Lib.hid hx2
  clear hi1 hr1 hb1 hb12 hw2 hx2 HIM
  go_wp2_with fail
  rw [← HW2.out]
  clear HW2
  refine HLO.out.mono ?_
  rintro er w3 ⟨e2, A2, n2, c2, gs2, x2, rfl, hi2, hr2, hn2, hb3⟩
  obtain ⟨rfl, hk, rfl⟩ := HI1.out.unique hi2
  obtain ⟨w4, hw4⟩ : ∃ w4, w4 = w3.alloc (.cells #[.int .u32 e1, .slice A2 n2 c2] 25) := ⟨_, rfl⟩
  have hb34 : Below w3.heap.size w3 w4 := by rw [hw4]; exact (Below.refl _ _).alloc (Nat.le_refl _) _
  have HB4 : Hid (Below w.heap.size w w4) := Lib.hid (HB2.out.trans ((hb3.trans (hb34.mono hb3.size)).mono HB2.out.size))
  have HS := Lib.hid (sameImage_same e1 A1 A2 n1 c1 n2 c2 w4.heap.size w4.heap.size gs1 gs2 w4 (rp_grow (rp_grow HR2.out hb3) hb34) (rp_grow hr2 hb34) (Nat.le_refl _) (Nat.le_refl _) hk hn1)
  have hx3 := HX2.out.fr (Fr.of_grow hb3) (fun h => h)
  have hxc := hx3.cell
  have hxl := hx3.lt
  have HW4 := Lib.hid hw4
  have hxx : (x1 == x1) = true := by simp
  obtain ⟨g3, hg3⟩ : ∃ g, w3.heap.size = g := ⟨_, rfl⟩
  rw [hg3] at hxl
  have hg13 : ¬ g1 = g3 := by omega
  clear hi2 hr2 hb3 hb34 hw4 hx3 HLO hk
  go_wp2_with fail
  rw [← HW4.out]
  clear HW4
  refine HS.out.mono ?_
  rintro e' w5 ⟨rfl, hb5⟩
  have HB5 := Lib.hid (HB4.out.trans (hb5.mono HB4.out.size))
  clear hb5
  go_wp2
  go_ret
  exact ⟨rfl, HB5.out⟩
end Go.Proofs.YtdgjcjhdclihpaaDoor
