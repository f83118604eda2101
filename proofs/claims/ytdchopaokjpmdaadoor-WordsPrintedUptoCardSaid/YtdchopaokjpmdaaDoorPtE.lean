/- The law ringlaw4.WordsPrinted. -/
import Derived.Test.YtdchopaokjpmdaaDoorPtD
namespace Go.Proofs.YtdchopaokjpmdaaDoor
open Go.RowKit
set_option maxHeartbeats 400000
set_option linter.unusedVariables false
set_option linter.unusedSimpArgs false
set_option maxHeartbeats 2000000 in
set_option maxRecDepth 100000 in
theorem law_wordsPrinted (s : ByteArray) (m : Tm) (w : World) (h : m.Ok w w.heap.size) (hs : s.size ≤ 1048576) (hv : VarOk w) : Calls Tryd.prog 3 #[.string s, .agg m.vals] w fun e w' => e = .returned (.bool true) ∧ Below w.heap.size w w' := by
  have HA := Lib.hid (fun W hv => quote_any s W hs hv)
  have HB := Lib.hid (fun W => wordQuote_any s W hs)
  have hx0 : Blk (w.alloc (.cells m.vals 24)) w.heap.size m.vals 24 := Blk.new w m.vals 24
  have hb0 : Below w.heap.size w (w.alloc (.cells m.vals 24)) := (Below.refl _ _).alloc (Nat.le_refl _) _
  have h0 := h.below' hb0 (Nat.le_refl _)
  have hv0 := hv.below hb0 hv.1
  obtain ⟨W, hW⟩ : ∃ W, W = w.alloc (.cells m.vals 24) := ⟨_, rfl⟩
  rw [← hW] at hx0 hb0 h0 hv0
  obtain ⟨g0, hg0⟩ : ∃ g, w.heap.size = g := ⟨_, rfl⟩
  rw [hg0] at hx0 hb0 h0
  have hlt0 := hx0.lt
  have HC := Lib.hid (fun W' (hb : Below W.heap.size W W') => quote_any s W' hs (hv0.below hb hv0.1))
  have HD := Lib.hid (fun W' (hb : Below W.heap.size W W') => print_any m W' g0 (h0.below' hb (Nat.le_of_lt hlt0)) (Nat.le_trans (Nat.le_of_lt hlt0) hb.size) (hv0.below hb hv0.1))
  have HE := Lib.hid (fun W' (hb : Below W.heap.size W W') => wordPrint_any m W' g0 (h0.below' hb (Nat.le_of_lt hlt0)) (Nat.le_trans (Nat.le_of_lt hlt0) hb.size))
  have HG := Lib.hid hg0
  have HB0 := Lib.hid hb0
  generalize bs (quoteL s.data.toList) = T at *
  generalize bs (printL m) = U at *
  obtain ⟨op, A, n, c, ps, kk⟩ := m
  unfold Tm.vals at hx0 HD HE hW ⊢
  dsimp only at hx0 HD HE hW ⊢
  have c0 := (hx0.cell 0).trans (show _ = some (.string op) from rfl)
  have c1 := (hx0.cell 1).trans (show _ = some (.slice A n c) from rfl)
  have c2 := (hx0.cell 2).trans (show _ = some (.int .i64 kk) from rfl)
  have HW := Lib.hid hW
  clear hW hx0 h0 h hb0
  unfold SaysB at HB HC HD HE
  go_enter Tryd.func3, Tryd.ntmps3
  go_wp2_with fail
  rw [← HW.out]
  obtain ⟨b, hb⟩ : ∃ b, W.heap.size = b := ⟨_, rfl⟩
  rw [hb] at hlt0 HC HD HE
  have hbl : b ≤ W.heap.size := by omega
  clear hb
  refine wp_region_near b (by kernel_rfl) (by kernel_rfl) ?_
  repeat (go_big_quiet_step (first | (go_at_call 4; exact Calls.near (Nat.le_trans hbl (Near.size _)) (HC.out _ (Near.prop _))) | (go_at_call 5; exact Calls.near (Nat.le_trans hbl (Near.size _)) (HB.out _)) | (go_at_call 6; exact Calls.near (Nat.le_trans hbl (Near.size _)) (HD.out _ (Near.prop _))) | (go_at_call 7; exact Calls.near (Nat.le_trans hbl (Near.size _)) (HE.out _ (Near.prop _)))))
  refine wpQuiet_nil ?_
  intro w4 hb4
  have hfin := Lib.hid (HB0.out.trans (hb4.mono (by omega)))
  clear hb4
  go_wp2
  go_ret
  exact ⟨rfl, by rw [HG.out]; exact hfin.out⟩
end Go.Proofs.YtdchopaokjpmdaaDoor
