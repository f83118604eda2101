/- One end of a stream: contract of answer, the last way. -/
import Derived.Test.YthlhjaacjhlkhaaStH
namespace Go.Proofs.Ythlhjaacjhlkhaa
open Go.RowKit
set_option maxHeartbeats 400000
set_option linter.unusedVariables false
set_option linter.unusedSimpArgs false
section
variable {w : World} {B g : Nat} {x : EC} {vo vi : Value} {xs ys : List Int}
set_option maxHeartbeats 4000000 in
set_option maxRecDepth 100000 in
theorem answer_more (h : ESt w B g x vo vi xs ys) (hB : B ≤ w.heap.size) (hl : xs.length ≤ 64) (q ak f wi : Int) (A : Option Addr) (n c : Nat) (hf0 : 0 ≤ f) (hf1 : f ≤ 15) (gb : ¬ anBad x ak f) (hz : anN x ak ≠ 0) :
    Calls Try.prog 98 #[.pointer (some ⟨g, 0, none⟩), .agg #[.int .u32 q, .int .u32 ak, .int .i64 f, .int .i64 wi, .slice A n c]] w (ERetV w B g vo vi (anX x xs.length ak f wi) (anXs x xs ak f) ys) := by
  obtain ⟨b1, b2, b4, b8⟩ := flag_bits hf0 hf1
  have HP := Lib.hid (Pos.start h (sgb q ak f wi A n c))
  obtain ⟨A0, c0, A', c', rfl, rfl, h1, h2, h3, h4⟩ := h.look
  have hng := HP.out.ng
  have HBI := Lib.hid (Ob2.bo h)
  clear h
  have g1 : ¬ f / 2 % 2 = 0 := fun hh => gb (.inl hh)
  have g2 : ¬ befB x.top ak = true := fun hh => gb (.inr (.inl hh))
  have g3 : ¬ befB ak x.una = true := fun hh => gb (.inr (.inr hh))
  have t1 : (f / 2 % 2 * 2 == 0) = false := by simp; omega
  have g2' : befB x.top ak = false := by simpa using g2
  have HB1 := Lib.hid (fun W => before_any x.top ak W)
  rw [g2'] at HB1
  have g3' : befB ak x.una = false := by simpa using g3
  have HB2 := Lib.hid (fun W => before_any ak x.una W)
  rw [g3'] at HB2
  obtain ⟨d, hd⟩ : ∃ d, anN x ak = d := ⟨_, rfl⟩
  have g4 : ¬ d = 0 := fun e => hz (hd.trans e)
  have hd0 : 0 ≤ d := by rw [← hd]; unfold anN; omega
  have hd1 : d < 4294967296 := by rw [← hd]; unfold anN; omega
  obtain ⟨kk, hkk⟩ : ∃ kk, min d.toNat xs.length = kk := ⟨_, rfl⟩
  have e1 : anX x xs.length ak f wi = { x with tries := 0, peer := wi, first := (x.first + kk) % 4294967296, una := ak, wait := 0, nxt := if befB x.nxt ak = true then ak else x.nxt } := by
    have : anD x ak xs.length = kk := by unfold anD; rw [hd]; exact hkk
    exact ((if_neg gb).trans (if_neg (by rw [hd]; exact g4))).trans (by rw [this])
  have e2 : anXs x xs ak f = xs.drop kk := by
    have : anD x ak xs.length = kk := by unfold anD; rw [hd]; exact hkk
    exact ((if_neg gb).trans (if_neg (by rw [hd]; exact g4))).trans (by rw [this])
  rw [e1, e2]
  have hmin : min d (xs.length : Int) = (kk : Int) := by omega
  have hkl : kk ≤ xs.length := by omega
  have d4 : (d == 0) = false := by simpa using g4
  have HB3 := Lib.hid (fun W => before_any x.nxt ak W)
  obtain ⟨bb, hbb⟩ : ∃ bb, befB x.nxt ak = bb := ⟨_, rfl⟩
  rw [hbb] at HB3 ⊢
  obtain ⟨nx, hnx⟩ : ∃ nx, (if bb = true then ak else x.nxt) = nx := ⟨_, rfl⟩
  rw [hnx]
  have HNX := Lib.hid hnx
  clear hnx
  unfold anN at hd
  clear e1 e2 g1 g2 g2' g3 g3' gb g4 hkk hbb
  generalize hl0 : xs.length = l at *
  have HL0 := Lib.hid hl0
  clear hl0
  go_enter Try.func98, Try.ntmps98
  go_wp2_with fail
  obtain ⟨W1, hW1⟩ : ∃ W1, W1 = w.alloc (.cells (sgb q ak f wi A n c) 25) := ⟨_, rfl⟩
  have hP1 := HP.out
  rw [← hW1] at hP1
  rw [show w.alloc (.cells #[.int .u32 q, .int .u32 ak, .int .i64 f, .int .i64 wi, .slice A n c] 25) = W1 from hW1.symm]
  have hc := hP1.o.blk.cell
  have hk := hP1.k
  have hlt := hP1.o.blk.lt
  have hs1 := hP1.s
  have HP1 := Lib.hid hP1
  dsimp only [ecells, sgb] at hc hk
  clear hP1 hW1 HP
  refine wp_region_near W1.heap.size (by kernel_rfl) (by kernel_rfl) ?_
  repeat (go_big_quiet_step (first | (go_at_call 10; exact Calls.near_same (HB1.out _)) | (go_at_call 10; exact Calls.near_same (HB2.out _))))
  refine wpQuiet_nil ?_
  intro WX hb1
  have HQ := Lib.hid (HP1.out.grow hb1)
  clear hb1 hc hk hlt hs1 HP1
  have hc13 : WX.cell? ⟨g, 13, none⟩ = some (.int .i64 x.tries) := HQ.out.o.blk.cell 13
  have hc8 : WX.cell? ⟨g, 8, none⟩ = some (.int .i64 x.peer) := HQ.out.o.blk.cell 8
  have hk3 : WX.cell? ⟨w.heap.size, 3, none⟩ = some (.int .i64 wi) := HQ.out.k 3
  have hf9 := HQ.out.o.blk.free
  have hl9 := HQ.out.o.blk.lt
  have hs9 := HQ.out.s
  go_wp2
  go_region
  go_wp2
  obtain ⟨WY, hWY⟩ : ∃ WY, WY = ((WX.setCell ⟨g, 13, none⟩ (.int .i64 0)).setCell ⟨g, 8, none⟩ (.int .i64 wi)).drew := ⟨_, rfl⟩
  rw [← hWY]
  have HY := Lib.hid ((HQ.out.set1 (x' := { x with tries := 0 }) 13 (.int .i64 0) (by simp [ecells])).set1 (x' := { x with tries := 0, peer := wi }) 8 (.int .i64 wi) (by simp [ecells])).drew
  rw [← hWY] at HY
  clear hWY hc13 hc8 hk3 hf9 hl9 hs9 HQ
  have hc1 : WY.cell? ⟨g, 1, none⟩ = some (.int .u32 x.una) := HY.out.o.blk.cell 1
  have hk1 : WY.cell? ⟨w.heap.size, 1, none⟩ = some (.int .u32 ak) := HY.out.k 1
  go_quiet (fail)
  obtain ⟨WZ, hWZ⟩ : ∃ WZ, WZ = WY.drewN nq := ⟨_, rfl⟩
  rw [← hWZ]
  have HZ := Lib.hid (HY.out.drewN nq)
  rw [← hWZ] at HZ
  clear hWZ HY hc1 hk1
  have hc6 : WZ.cell? ⟨g, 6, none⟩ = some (.slice A0 l c0) := HZ.out.o.blk.cell 6
  have hro := HZ.out.o.ro
  rw [HL0.out] at hro
  obtain ⟨A2, hrun, hr2⟩ := row_cut_run Try.prog Try.underlying23 st_elem23 st_sizeOf5 hro kk hkl h1
  rw [← List.map_drop] at hr2
  have HC := Lib.hid (bclone_any A2 (l - kk) (c0 - kk) (xs.drop kk) WZ _ ⟨hr2.reads, byt_drop HBI.out kk⟩ (Nat.le_refl _) (by omega))
  have HN := Lib.hid (fun w5 (hb5 : Below WZ.heap.size WZ w5) A8 n8 c8 (hr5 : Row w5 WZ.heap.size 5 1 (.slice A8 n8 c8) n8 ((xs.drop kk).map (Value.int .u8))) => HZ.out.newO hB hb5 hr5 (byt_drop HBI.out kk))
  have HZG := Lib.hid (fun w5 (hb5 : Below WZ.heap.size WZ w5) => HZ.out.grow hb5)
  clear hr2 hro
  go_wp2_with (first | (refine wpList_min _ rfl (.tmp 46) (.tmp 51) 3 3 rfl d (l : Int) (kk : Int) rfl rfl hmin ?_) | (refine wpList_slice_lo rfl 23 5 (.tmp 57) (.tmp 58) rfl Try.underlying23 (.slice A0 l c0) (.int .i64 kk) rfl rfl (.slice A2 (l - kk) (c0 - kk)) (hrun _) ?_))
  refine HC.out.mono ?_
  rintro e w5 ⟨v, rfl, hr5, hb5⟩
  obtain ⟨A8, c8, rfl, -, -⟩ := hr5.shape
  have h6 := HN.out w5 hb5 A8 _ c8 hr5
  have h5 := HZG.out w5 hb5
  have hc5 := h5.o.blk.cell
  have hk5 : w5.cell? ⟨w.heap.size, 1, none⟩ = some (.int .u32 ak) := h5.k 1
  have hf5 := h5.o.blk.free
  have hl5 := h5.o.blk.lt
  have H6 := Lib.hid h6
  dsimp only [ecells] at hc5
  clear hr5 hb5 h6 h5 hc6 HC HN HZG HZ
  go_wp2
  obtain ⟨W9, hW9⟩ : ∃ W9, W9 = (((w5.setCell ⟨g, 6, none⟩ (.slice A8 (l - kk) c8)).setCell ⟨g, 4, none⟩ (.int .u32 ((x.first + kk) % 4294967296))).setCell ⟨g, 1, none⟩ (.int .u32 ak)).setCell ⟨g, 12, none⟩ (.int .i64 0) := ⟨_, rfl⟩
  rw [← hW9]
  have h9 := ((H6.out.set1 (x' := { x with tries := 0, peer := wi, first := (x.first + kk) % 4294967296 }) 4 (.int .u32 ((x.first + kk) % 4294967296)) (by simp [ecells])).set1 (x' := { x with tries := 0, peer := wi, first := (x.first + kk) % 4294967296, una := ak }) 1 (.int .u32 ak) (by simp [ecells])).set1 (x' := { x with tries := 0, peer := wi, first := (x.first + kk) % 4294967296, una := ak, wait := 0 }) 12 (.int .i64 0) (by simp [ecells])
  rw [← hW9] at h9
  have H9 := Lib.hid h9
  have hc2 : W9.cell? ⟨g, 2, none⟩ = some (.int .u32 x.nxt) := h9.o.blk.cell 2
  have hc1 : W9.cell? ⟨g, 1, none⟩ = some (.int .u32 ak) := h9.o.blk.cell 1
  have hl9 := h9.o.blk.lt
  clear hW9 h9 hc5 hk5 hf5 hl5 H6
  refine wp_region_near W9.heap.size (by kernel_rfl) (by kernel_rfl) ?_
  repeat (go_big_quiet_step (first | (go_at_call 10; exact Calls.near_same (HB3.out _))))
  refine wpQuiet_nil ?_
  intro W10 hb10
  have HQ := Lib.hid (H9.out.grow hb10)
  clear hb10 hc2 hc1 hl9 H9
  have hc2 : W10.cell? ⟨g, 2, none⟩ = some (.int .u32 x.nxt) := HQ.out.o.blk.cell 2
  have hc1 : W10.cell? ⟨g, 1, none⟩ = some (.int .u32 ak) := HQ.out.o.blk.cell 1
  have hf10 := HQ.out.o.blk.free
  have hl10 := HQ.out.o.blk.lt
  cases bb with
  | true =>
    have HX : Hid (nx = ak) := Lib.hid (HNX.out.symm.trans (if_pos rfl))
    go_wp2
    exact bodyPost_ret (v := .tuple #[]) (by simp [results, Try.results98, go_sem]) rfl ⟨rfl, by rw [HX.out]; exact (HQ.out.set1 (x' := { x with tries := 0, peer := wi, first := (x.first + kk) % 4294967296, una := ak, wait := 0, nxt := ak }) 2 (.int .u32 ak) (by simp [ecells])).go⟩
  | false =>
    have HX : Hid (nx = x.nxt) := Lib.hid (HNX.out.symm.trans (if_neg (by simp)))
    go_wp2
    exact bodyPost_ret (v := .tuple #[]) (by simp [results, Try.results98, go_sem]) rfl ⟨rfl, by rw [HX.out]; exact HQ.out.go⟩
theorem answer98 (h : ESt w B g x vo vi xs ys) (hB : B ≤ w.heap.size) (hl : xs.length ≤ 64) (q ak f wi : Int) (A : Option Addr) (n c : Nat) (hf0 : 0 ≤ f) (hf1 : f ≤ 15) :
    Calls Try.prog 98 #[.pointer (some ⟨g, 0, none⟩), .agg #[.int .u32 q, .int .u32 ak, .int .i64 f, .int .i64 wi, .slice A n c]] w (ERetV w B g vo vi (anX x xs.length ak f wi) (anXs x xs ak f) ys) := by
  by_cases hb : anBad x ak f
  · exact answer_bad h hB hl q ak f wi A n c hf0 hf1 hb
  · by_cases hz : anN x ak = 0
    · exact answer_same h hB hl q ak f wi A n c hf0 hf1 hb hz
    · exact answer_more h hB hl q ak f wi A n c hf0 hf1 hb hz
end
end Go.Proofs.Ythlhjaacjhlkhaa
