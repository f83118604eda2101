/- The law ringlaw4.ObjMade, at arguments that are not too long. -/
import Derived.Test.YtgmpcdonmlhohaaObH
namespace Go.Proofs.Ytgmpcdonmlhohaa
open Go.RowKit
set_option maxHeartbeats 400000
set_option linter.unusedVariables false
set_option linter.unusedSimpArgs false
theorem RM.more {w : World} {B B' n : Nat} {A : Option Addr} {ms : List Mk} (h : RM w B A n ms) (hB : B ≤ B') : RM w B' A n ms := ⟨h.1.more hB, h.2⟩
set_option maxHeartbeats 4000000 in
set_option maxRecDepth 100000 in
theorem law_objMade (A0 Am A3 A1 Ak : Option Addr) (n0 c0 nm cm n3 c3 n1 c1 nk ck : Nat) (ws bs : List Int) (ms ks : List Mk) (ds : List Nd) (w : World)
    (hw : RW w w.heap.size A0 n0 ws) (hm : RM w w.heap.size Am nm ms) (hd : RD w w.heap.size A3 n3 ds) (hb : RB w w.heap.size A1 n1 bs) (hk : RM w w.heap.size Ak nk ks) (l0 : n0 * 4 ≤ 140737488355328) (lm : nm + nk ≤ 1099511627776) (l3 : n3 * 32 ≤ 140737488355328) (l1 : n1 ≤ 140737488355328) :
    Calls Try.prog 4 #[.agg #[.slice A0 n0 c0, .slice Am nm cm, .slice A3 n3 c3], .slice A1 n1 c1, .slice Ak nk ck] w fun e w' => e = .returned (.bool true) ∧ Below w.heap.size w w' := by
  have hb0 : Below w.heap.size w (w.alloc (.cells #[.slice A0 n0 c0, .slice Am nm cm, .slice A3 n3 c3] 34)) := (Below.refl _ _).alloc (Nat.le_refl _) _
  have hbox0 := Blk.new w #[.slice A0 n0 c0, .slice Am nm cm, .slice A3 n3 c3] 34
  generalize hE : errOf n0 n1 n3 (made ms ks) ds = E at *
  have HE := Lib.hid hE
  clear hE
  go_enter Try.func4, Try.ntmps4
  go_wp2_with fail
  refine (from_any A0 Am A3 A1 Ak n0 c0 nm cm n3 c3 n1 c1 nk ck ws bs ms ks ds _ w.heap.size hb0.size (hw.below' hb0 (Nat.le_refl _)) (hm.below' hb0 (Nat.le_refl _)) (hd.below' hb0 (Nat.le_refl _)) (hb.below' hb0 (Nat.le_refl _)) (hk.below' hb0 (Nat.le_refl _)) l0 lm l3 l1).mono ?_
  rintro e w1 ⟨o, rfl, hfull, hons, hods, hb1⟩
  rw [HE.out] at hfull hons hods ⊢
  have hbw1 : Below w.heap.size w w1 := hb0.trans (hb1.mono hb0.size)
  have hbox1 := hbox0.fr (Fr.of_grow hb1) (fun h => h)
  have hs1 : w.heap.size + 1 ≤ w1.heap.size := by have := hb1.size; simpa using this
  have HF := Lib.hid hfull
  have HN := Lib.hid hons
  have HD := Lib.hid hods
  clear hfull hons hods hb1 hbox0 hb0
  obtain ⟨X0, m0, e0, X1, m1, e1, X2, m2, e2, X3, m3, e3, ns, ds'⟩ := o
  dsimp only [Ob.vals]
  have hb2 : Below w.heap.size w (w1.alloc (.cells #[.slice X0 m0 e0, .slice X1 m1 e1, .slice X2 m2 e2, .slice X3 m3 e3] 38)) := hbw1.alloc hbw1.size _
  have hbox2 := hbox1.alloc (.cells #[.slice X0 m0 e0, .slice X1 m1 e1, .slice X2 m2 e2, .slice X3 m3 e3] 38)
  have hp2 := Blk.new w1 #[.slice X0 m0 e0, .slice X1 m1 e1, .slice X2 m2 e2, .slice X3 m3 e3] 38
  have hc2 := hbox1.cell
  have hl1 := hbox1.lt
  go_wp2_with fail
  refine (objFrom_any A0 Am A3 A1 Ak n0 c0 nm cm n3 c3 n1 c1 nk ck ws bs ms ks ds _ w.heap.size hb2.size (hw.below' hb2 (Nat.le_refl _)) (hm.below' hb2 (Nat.le_refl _)) (hd.below' hb2 (Nat.le_refl _)) (hb.below' hb2 (Nat.le_refl _)) (hk.below' hb2 (Nat.le_refl _)) (by omega) lm (by omega) (by omega)).mono ?_
  rintro e w3 ⟨o, rfl, hfull, hons, hods, hb3⟩
  rw [HE.out] at hfull hons hods ⊢
  have hbw3 : Below w.heap.size w w3 := hb2.trans (hb3.mono hb2.size)
  have hp3 := hp2.fr (Fr.of_grow hb3) (fun h => h)
  have HF1 := Lib.hid ((HF.out.below' (Grow.trans (Grow.alloc w1 (.cells #[.slice X0 m0 e0, .slice X1 m1 e1, .slice X2 m2 e2, .slice X3 m3 e3] 38)) hb3) (Nat.le_refl _)))
  have hs3 : w1.heap.size + 1 ≤ w3.heap.size := by have := hb3.size; simpa using this
  have HF' := Lib.hid hfull
  have HN' := Lib.hid hons
  have HD' := Lib.hid hods
  clear hfull hons hods hb2 hbox2 hbox1 hc2 hl1 hb3 hp2 HF
  obtain ⟨Y0, p0, f0, Y1, p1, f1, Y2, p2, f2, Y3, p3, f3, ns', ds''⟩ := o
  dsimp only [Ob.vals]
  have hb4 : Below w.heap.size w (w3.alloc (.cells #[.slice Y0 p0 f0, .slice Y1 p1 f1, .slice Y2 p2 f2, .slice Y3 p3 f3] 38)) := hbw3.alloc hbw3.size _
  have hG := Grow.alloc w3 (.cells #[.slice Y0 p0 f0, .slice Y1 p1 f1, .slice Y2 p2 f2, .slice Y3 p3 f3] 38)
  have hA := Lib.hid ((HF1.out.below' hG (by omega)).more (Nat.le_trans (by omega : w1.heap.size ≤ w3.heap.size) hG.size))
  have hC := Lib.hid ((HF'.out.below' hG (Nat.le_refl _)).more hG.size)
  have hcp := hp3.cell
  have hlp := hp3.lt
  clear hp3 hG
  go_wp2_with fail
  refine (sameObject_same ⟨X0, m0, e0, X1, m1, e1, X2, m2, e2, X3, m3, e3, ns, ds'⟩ ⟨Y0, p0, f0, Y1, p1, f1, Y2, p2, f2, Y3, p3, f3, ns', ds''⟩ _ _ _ hA.out hC.out (HN'.out.trans HN.out.symm) (HD'.out.trans HD.out.symm)).mono ?_
  rintro e w5 ⟨rfl, hb5⟩
  have hbw5 := hb4.trans (hb5.mono hb4.size)
  have hEE : (E == E) = true := by simp
  clear hcp hlp hb5
  go_wp2
  go_ret
  exact ⟨ob_bool (by simp), hbw5⟩
end Go.Proofs.Ytgmpcdonmlhohaa
