/- The law ringlaw4.ObjWritten. -/
import Derived.Test.YtgmpcdonmlhohaaObP
namespace Go.Proofs.Ytgmpcdonmlhohaa
open Go.RowKit
set_option maxHeartbeats 400000
set_option linter.unusedVariables false
set_option linter.unusedSimpArgs false
set_option maxHeartbeats 4000000 in
set_option maxRecDepth 100000 in
theorem law_objWritten (o : Ob) (w : World) (ws bs : List Int) (h : o.Full w w.heap.size ws bs) (hws : ∀ x ∈ ws, 0 ≤ x ∧ x < 4294967296) (hc2 : o.n2 ≤ o.c2) (hc2' : o.c2 ≤ 9223372036854775807) :
    Calls Try.prog 5 #[.agg o.vals] w fun e w' => e = .returned (.bool true) ∧ Below w.heap.size w w' := by
  have hb0 : Below w.heap.size w (w.alloc (.cells o.vals 38)) := (Below.refl _ _).alloc (Nat.le_refl _) _
  have hbox0 : Blk (w.alloc (.cells o.vals 38)) w.heap.size o.vals 38 := Blk.new w _ 38
  have HEnc := Lib.hid (enc_any o (w.alloc (.cells o.vals 38)) w.heap.size ws bs (h.below' hb0 (Nat.le_refl _)) hws hb0.size)
  have HByt := Lib.hid (fun W (hb : Below w.heap.size w W) => objBytes_any o W w.heap.size ws bs (h.below' hb (Nat.le_refl _)) hws hb.size hc2 hc2')
  have HChk := Lib.hid (fun W (hb : Below w.heap.size w W) => check_any o W w.heap.size (h.read.below' hb (Nat.le_refl _)) hb.size)
  have HFlt := Lib.hid (fun W (hb : Below w.heap.size w W) => fault_any o W w.heap.size (h.read.below' hb (Nat.le_refl _)) hb.size hc2 hc2')
  unfold BytesPost at HEnc
  unfold ObjPost at HByt
  unfold ErrPost at HChk HFlt
  generalize hE : objErr o = E at *
  generalize hX : (if E = 0 then objI ws bs o.n0 o.n1 o.n2 o.n3 o.ns o.ds else []) = X at *
  clear hE hX h
  obtain ⟨A0, n0, c0, A1, n1, c1, A2, n2, c2, A3, n3, c3, ns, ds⟩ := o
  dsimp only [Ob.vals] at hb0 hbox0 HEnc HByt HChk HFlt ⊢
  go_enter Try.func5, Try.ntmps5
  go_wp2_with fail
  refine HEnc.out.mono ?_
  rintro e w1 ⟨v1, m1, rfl, ⟨A5, c5, rfl, hr1⟩, hb1⟩
  have hbw1 := hb0.trans (hb1.mono hb0.size)
  have hbox1 := hbox0.fr (Fr.of_grow hb1) (fun h => h)
  have hcx := hbox1.cell
  have hlx := hbox1.lt
  go_wp2_with fail
  refine (HByt.out _ hbw1).mono ?_
  rintro e w2 ⟨A6, m2, c6, rfl, hr2, hb2⟩
  have hbw2 := hbw1.trans (hb2.mono hbw1.size)
  have hbox2 := hbox1.fr (Fr.of_grow hb2) (fun h => h)
  have hbyt := hr2.2
  have hr1' : RB w2 w1.heap.size A5 m1 X := ⟨Reads.below' hr1.reads hb2 (Nat.le_refl _), hbyt⟩
  have hs12 := hb2.size
  have hsw := hbw2.size
  clear hb1 hb0 hbox0 hcx hlx hbox1 hbw1 hr1 HEnc HByt hb2
  have hcx := hbox2.cell
  have hlx := hbox2.lt
  go_wp2_with fail
  have HS := Lib.hid (fun (x : Near w2.heap.size w2) => sameBytes_same A5 A6 m1 c5 m2 c6 X x.val _ _ (hr1'.below' x.prop hs12) (hr2.below' x.prop (Nat.le_refl _)))
  have hsz2 : ∀ (x : Near w2.heap.size w2), w2.heap.size ≤ x.val.heap.size := fun x => x.size
  refine wp_region_near w2.heap.size (by kernel_rfl) (by kernel_rfl) ?_
  repeat (go_big_quiet_step (first | (go_at_call 15; exact Calls.near (hsz2 _) (HChk.out _ (hbw2.trans ((Near.prop _).mono hsw)))) | (go_at_call 16; exact Calls.near (hsz2 _) (HFlt.out _ (hbw2.trans ((Near.prop _).mono hsw)))) | (go_at_call 17; exact Calls.near (hsz2 _) (HS.out _))))
  refine wpQuiet_nil ?_
  intro w3 hb3
  have hfin : Hid (Below w.heap.size w w3) := Lib.hid (hbw2.trans (hb3.mono hsw))
  go_wp2
  go_ret
  exact ⟨by simp, hfin.out⟩
end Go.Proofs.Ytgmpcdonmlhohaa
