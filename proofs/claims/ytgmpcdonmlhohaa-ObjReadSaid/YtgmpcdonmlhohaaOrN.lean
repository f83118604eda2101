/- The law ringlaw4.ObjRead. -/
import Derived.Test.YtgmpcdonmlhohaaOrL
namespace Go.Proofs.Ytgmpcdonmlhohaa
open Go.RowKit
set_option maxHeartbeats 400000
set_option linter.unusedVariables false
set_option linter.unusedSimpArgs false
set_option maxHeartbeats 4000000 in
set_option maxRecDepth 100000 in
theorem law_objRead (A : Option Addr) (n c : Nat) (xs : List Int) (w : World) (h : RB w w.heap.size A n xs) (hnc : n ≤ c) (hcm : c ≤ maxLen) :
    Calls Try.prog 7 #[.slice A n c] w fun e w' => e = .returned (.bool true) ∧ Below w.heap.size w w' := by
  have HD := Lib.hid (decode_any A n c xs w h hnc hcm)
  have HO := Lib.hid (fun (W : World) (hb : Below w.heap.size w W) => objOf_any A n c xs W ((h.below' hb (Nat.le_refl _)).more hb.size) hnc hcm)
  unfold DecP MadePost at HD HO
  generalize hE : decErr 3 21 xs = E at *
  obtain ⟨zw, hzw⟩ : ∃ q, (if E = 0 then (parts (some (xs.drop 3))).ws else []) = q := ⟨_, rfl⟩
  obtain ⟨zb, hzb⟩ : ∃ q, (if E = 0 then (parts (some (xs.drop 3))).bs else []) = q := ⟨_, rfl⟩
  obtain ⟨zn, hzn⟩ : ∃ q, (if E = 0 then (parts (some (xs.drop 3))).ns else []) = q := ⟨_, rfl⟩
  obtain ⟨zd, hzd⟩ : ∃ q, (if E = 0 then (parts (some (xs.drop 3))).ds else []) = q := ⟨_, rfl⟩
  rw [hzw, hzb, hzn, hzd] at HD
  simp only [hzw, hzb, hzn, hzd] at HO
  clear hE hzw hzb hzn hzd h
  go_enter Try.func7, Try.ntmps7
  go_wp2_with fail
  refine HD.out.mono ?_
  rintro e w1 ⟨o, rfl, hfull, hons, hods, hbw1⟩
  have HF := Lib.hid hfull
  have HN := Lib.hid hons
  have HDD := Lib.hid hods
  clear hfull hons hods HD
  obtain ⟨X0, m0, e0, X1, m1, e1, X2, m2, e2, X3, m3, e3, ns, ds'⟩ := o
  dsimp only [Ob.vals]
  have hb2 : Below w.heap.size w (w1.alloc (.cells #[.slice X0 m0 e0, .slice X1 m1 e1, .slice X2 m2 e2, .slice X3 m3 e3] 38)) := hbw1.alloc hbw1.size _
  have hp2 := Blk.new w1 #[.slice X0 m0 e0, .slice X1 m1 e1, .slice X2 m2 e2, .slice X3 m3 e3] 38
  go_wp2_with fail
  refine (HO.out _ hb2).mono ?_
  rintro e w3 ⟨o, rfl, hfull, hons, hods, hb3⟩
  have hbw3 : Below w.heap.size w w3 := hb2.trans (hb3.mono hb2.size)
  have hp3 := hp2.fr (Fr.of_grow hb3) (fun h => h)
  have HF1 := Lib.hid ((HF.out.below' (Grow.trans (Grow.alloc w1 (.cells #[.slice X0 m0 e0, .slice X1 m1 e1, .slice X2 m2 e2, .slice X3 m3 e3] 38)) hb3) (Nat.le_refl _)))
  have hs3 : w1.heap.size + 1 ≤ w3.heap.size := by have := hb3.size; simpa using this
  have HF' := Lib.hid hfull
  have HN' := Lib.hid hons
  have HD' := Lib.hid hods
  clear hfull hons hods hb2 hb3 hp2 HF HO
  obtain ⟨Y0, p0, f0, Y1, p1, f1, Y2, p2, f2, Y3, p3, f3, ns', ds''⟩ := o
  dsimp only [Ob.vals]
  have hb4 : Below w.heap.size w (w3.alloc (.cells #[.slice Y0 p0 f0, .slice Y1 p1 f1, .slice Y2 p2 f2, .slice Y3 p3 f3] 38)) := hbw3.alloc hbw3.size _
  have hG := Grow.alloc w3 (.cells #[.slice Y0 p0 f0, .slice Y1 p1 f1, .slice Y2 p2 f2, .slice Y3 p3 f3] 38)
  have hA := Lib.hid ((HF1.out.below' hG (by omega)).more (Nat.le_trans (by omega : w1.heap.size ≤ w3.heap.size) hG.size))
  have hC := Lib.hid ((HF'.out.below' hG (Nat.le_refl _)).more hG.size)
  have hcp := hp3.cell
  have hlp := hp3.lt
  clear hp3 hG
  go_wp2_with fail
  refine (sameObject_same ⟨X0, m0, e0, X1, m1, e1, X2, m2, e2, X3, m3, e3, ns, ds'⟩ ⟨Y0, p0, f0, Y1, p1, f1, Y2, p2, f2, Y3, p3, f3, ns', ds''⟩ _ _ _ hA.out hC.out (HN'.out.trans HN.out.symm) (HD'.out.trans HDD.out.symm)).mono ?_
  rintro e w5 ⟨rfl, hb5⟩
  have hbw5 := hb4.trans (hb5.mono hb4.size)
  have hEE : (E == E) = true := by simp
  clear hcp hlp hb5
  go_wp2
  go_ret
  exact ⟨ob_bool (by simp), hbw5⟩
end Go.Proofs.Ytgmpcdonmlhohaa
