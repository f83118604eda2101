/- One end of a stream, the reference: contract of data. -/
import Derived.Test.YthlhjaacjhlkhaaStU
namespace Go.Proofs.Ythlhjaacjhlkhaa
open Go.RowKit
set_option maxHeartbeats 400000
set_option linter.unusedVariables false
set_option linter.unusedSimpArgs false
theorem sg_syn (f : Int) (h : f % 2 = 0 ∨ f % 2 = 1) : (f % 2 == 0) = !decide (f % 2 = 1) := by
  rcases h with h | h <;> simp [h]
theorem sg_span (x : Sg) (hf : 0 ≤ x.flags ∧ x.flags ≤ 15) : spanF x.flags x.dat.length = x.span := by
  unfold spanF Sg.span Sg.syn Sg.fi
  by_cases h1 : x.flags % 2 = 1 <;> by_cases h2 : x.flags / 4 % 2 = 1 <;> simp [h1, h2] <;> omega
section
variable {w : World} {B q : Nat} {s : Sm} {vo vi : Value} {m : Nat}
set_option maxHeartbeats 2000000 in
set_option maxRecDepth 100000 in
theorem rdata0 (h : RSt w B q s vo vi) (hB : B ≤ w.heap.size) (x : Sg) (hx : x.Fine) (A : Option Addr) (n c : Nat) (hd : Far w q vo vi A n x.dat) (hz : x.span = 0) :
    Calls Try.prog 101 #[.pointer (some ⟨q, 0, none⟩), .agg #[.int .u32 x.seq, .int .u32 x.ack, .int .i64 x.flags, .int .i64 x.window, .slice A n c]] w (RRetV w B q vo vi (s.dataS x)) := by
  have hln := hd.len
  have hn : n ≤ 32 := by rw [← hln]; exact hx.len
  have HS := Lib.hid (fun w' hb => Ob2.same (w' := w') h hb)
  have HSP := Lib.hid (fun W => segSpan_any x.seq x.ack x.flags x.window A n c W (by unfold maxLen; omega))
  have hsp : spanF x.flags n = 0 := by rw [← hln, sg_span x hx.flags, hz]; rfl
  rw [spanI_small hn, hsp] at HSP
  have e1 : s.dataS x = s := if_pos hz
  rw [e1]
  generalize x.flags = f at *
  generalize x.seq = sq at *
  generalize x.ack = ak at *
  generalize x.window = wi at *
  clear e1 hsp hz hln hx hd h
  go_enter Try.func101, Try.ntmps101
  go_wp2_with fail
  refine (HSP.out _).mono ?_
  rintro e w1 ⟨rfl, hbs⟩
  have HB1 := Lib.hid (((Below.refl w.heap.size w).alloc (Nat.le_refl _) (.cells (sgb sq ak f wi A n c) 25)).trans (hbs.mono (by simp)))
  clear hbs
  go_wp2
  exact bodyPost_ret (v := .tuple #[]) (by simp [results, Try.results101, go_sem]) rfl ⟨rfl, HS.out _ HB1.out⟩
set_option maxHeartbeats 2000000 in
set_option maxRecDepth 100000 in
theorem rdata1 (h : RSt w B q s vo vi) (hB : B ≤ w.heap.size) (x : Sg) (hx : x.Fine) (A : Option Addr) (n c : Nat) (hd : Far w q vo vi A n x.dat) (hnc : n ≤ c) (hcm : c ≤ 9223372036854775807) (hz : x.span ≠ 0) (hrd : s.rd ≤ s.got.length) (hgm : s.got.length ≤ 1000000)
    (hb : ¬ (x.syn = false ∧ x.seq = s.awI ∧ s.fin = false ∧ s.inn.length + x.dat.length ≤ 64)) :
    Calls Try.prog 101 #[.pointer (some ⟨q, 0, none⟩), .agg #[.int .u32 x.seq, .int .u32 x.ack, .int .i64 x.flags, .int .i64 x.window, .slice A n c]] w (RRetV w B q vo vi (s.dataS x)) := by
  have hln := hd.len
  have hn : n ≤ 32 := by rw [← hln]; exact hx.len
  have HSP := Lib.hid (fun W => segSpan_any x.seq x.ack x.flags x.window A n c W (by unfold maxLen; omega))
  obtain ⟨sp, hsp⟩ : ∃ sp, spanF x.flags n = sp := ⟨_, rfl⟩
  have hsp0 : sp ≠ 0 := fun e => hz (by have := sg_span x hx.flags; rw [hln, hsp, e] at this; omega)
  rw [spanI_small hn, hsp] at HSP
  have e1 : s.dataS x = { s with due := true } := (if_neg hz).trans (if_neg hb)
  rw [e1]
  rw [hln, show s.inn.length = s.got.length - s.rd by simp [Sm.inn]] at hb
  have hsy : x.syn = decide (x.flags % 2 = 1) := rfl
  rw [hsy] at hb
  obtain ⟨b1, b2, b4, b8⟩ := flag_bits hx.flags.1 hx.flags.2
  have hf2 : x.flags % 2 = 0 ∨ x.flags % 2 = 1 := by omega
  generalize x.flags = f at *
  generalize x.seq = sq at *
  generalize x.ack = ak at *
  generalize x.window = wi at *
  have HGB := Lib.hid (fun w' (hb : Below w.heap.size w w') => Ob2.grow h hb)
  have hne : ¬ w.heap.size = q := by have := (Ob2.blk h).lt; omega
  have hkb := (Blk.new w (sgb sq ak f wi A n c) 25)
  have d1 : (sp == 0) = false := by simpa using hsp0
  obtain ⟨A0, c0, A', c', rfl, rfl, h1, h2, h3, h4⟩ := h.look
  clear e1 hsp hz hx hd h hsy hsp0 hln
  have pr : ∀ (Q : Ending → World → Prop) (f : Nat), Q = Q := fun _ _ => rfl
  clear pr
  rcases hf2 with hf2 | hf2
  · have t1 : (f % 2 == 0) = true := by simpa using hf2
    by_cases hsa : sq = s.awI
    · have t2 : (sq == s.awI) = true := by simpa using hsa
      by_cases hfi : s.fin = true
      · clear hb hsa hf2
        go_enter Try.func101, Try.ntmps101
        go_wp2_with fail
        refine (HSP.out _).mono ?_
        rintro e w1 ⟨rfl, hbs⟩
        have hbb : Below w.heap.size w w1 := ((Below.refl w.heap.size w).alloc (Nat.le_refl _) (.cells (sgb sq ak f wi A n c) 25)).trans (hbs.mono (by simp))
        have h0 := HGB.out w1 hbb
        obtain ⟨h1W, a1W⟩ := h0.set1 (cs' := rcells { s with due := true }) 12 (.bool true) (by simp [rcells])
        have a0W := (At2.grow (g := q) (vo := .slice A0 s.said.length c0) (vi := .slice A' s.got.length c') hbb).trans a1W
        have hc0 := h0.blk.cell 12
        have hf0 := h0.blk.free 12
        have hlt0 := h0.blk.lt
        have hkc : ∀ j, (w1.setCell ⟨q, 12, none⟩ (.bool true)).cell? ⟨w.heap.size, j, none⟩ = (sgb sq ak f wi A n c)[j]? := fun j => (World.cell?_of_block (Below.heap_setCell w1 _ _ w.heap.size hne)).trans ((hbs.cell (p := ⟨w.heap.size, j, none⟩) (by simp)).trans (hkb.cell j))
        have hsz : w.heap.size < (w1.setCell ⟨q, 12, none⟩ (.bool true)).heap.size := by have := hbs.size; simp at this ⊢; omega
        dsimp only [rcells, sgb] at hc0 hkc
        clear hbs h0 a1W hbb
        go_wp2
        clear hc0 hf0 hlt0
        obtain ⟨W, hW⟩ : ∃ W, W = w1.setCell ⟨q, 12, none⟩ (.bool true) := ⟨_, rfl⟩
        rw [← hW] at h1W a0W hkc hsz ⊢
        clear hW
        have H1 : Hid (RSt W B q { s with due := true } (.slice A0 s.said.length c0) (.slice A' s.got.length c')) := Lib.hid h1W
        have hc := h1W.blk.cell
        have hlt := h1W.blk.lt
        dsimp only [rcells] at hc
        have HA0 := Lib.hid a0W
        clear h1W a0W
        go_quiet (fail)
        go_wp2
        obtain ⟨W2, hW2⟩ : ∃ W2, W2 = W.drewN nq := ⟨_, rfl⟩
        rw [← hW2]
        have hbW : Below W.heap.size W W2 := by rw [hW2]; exact st_drewN (Below.refl _ _) _
        have hkc2 : ∀ j, W2.cell? ⟨w.heap.size, j, none⟩ = (sgb sq ak f wi A n c)[j]? := by rw [hW2]; exact hkc
        have hsz2 : w.heap.size < W2.heap.size := by rw [hW2]; exact hsz
        dsimp only [sgb] at hkc2
        clear hW2 hc hkc hlt hsz
        have H2 : Hid (RSt W2 B q { s with due := true } (.slice A0 s.said.length c0) (.slice A' s.got.length c')) := Lib.hid (Ob2.grow H1.out hbW)
        have HA2 := Lib.hid (HA0.out.more hbW)
        have HAW : Hid (∀ x : Near W2.heap.size W2, Calls Try.prog 115 #[.pointer (some ⟨q, 0, none⟩)] x.val fun e w' => e = .returned (.int .u32 s.awI) ∧ Below x.val.heap.size x.val w') := Lib.hid (fun x => rawaited (s := { s with due := true }) (Ob2.grow H2.out x.prop))
        have hc : ∀ j, W2.cell? ⟨q, j, none⟩ = (rcells { s with due := true } (.slice A0 s.said.length c0) (.slice A' s.got.length c'))[j]? := (Ob2.blk H2.out).cell
        have hlt2 := (Ob2.blk H2.out).lt
        have HFIN : Hid (∀ w', Below W2.heap.size W2 w' → RSGo w B q (.slice A0 s.said.length c0) (.slice A' s.got.length c') { s with due := true } w') := Lib.hid (fun w' hb => (HA2.out.more hb).go (Ob2.grow H2.out hb))
        dsimp only [rcells] at hc
        clear hbW H1 HA0
        rw [hfi] at hc
        clear hfi
        refine wp_region_near W2.heap.size (by kernel_rfl) (by kernel_rfl) ?_
        repeat (go_big_quiet_step (first | (go_at_call 115; exact Calls.near (Near.prop _).size (HAW.out _))))
        refine wpQuiet_nil ?_
        intro w3 hb3
        go_wp2
        exact bodyPost_ret (v := .tuple #[]) (by simp [results, Try.results101, go_sem]) rfl ⟨rfl, HFIN.out _ hb3⟩
      · have hfi : s.fin = false := by simpa using hfi
        have hnf : ¬ s.got.length - s.rd + n ≤ 64 := fun e => hb ⟨by simp; omega, hsa, hfi, e⟩
        have t3 : decide ((s.got.length : Int) - s.rd + n ≤ 64) = false := by simp; omega
        clear hb hsa hf2 hnf
        go_enter Try.func101, Try.ntmps101
        go_wp2_with fail
        refine (HSP.out _).mono ?_
        rintro e w1 ⟨rfl, hbs⟩
        have hbb : Below w.heap.size w w1 := ((Below.refl w.heap.size w).alloc (Nat.le_refl _) (.cells (sgb sq ak f wi A n c) 25)).trans (hbs.mono (by simp))
        have h0 := HGB.out w1 hbb
        obtain ⟨h1W, a1W⟩ := h0.set1 (cs' := rcells { s with due := true }) 12 (.bool true) (by simp [rcells])
        have a0W := (At2.grow (g := q) (vo := .slice A0 s.said.length c0) (vi := .slice A' s.got.length c') hbb).trans a1W
        have hc0 := h0.blk.cell 12
        have hf0 := h0.blk.free 12
        have hlt0 := h0.blk.lt
        have hkc : ∀ j, (w1.setCell ⟨q, 12, none⟩ (.bool true)).cell? ⟨w.heap.size, j, none⟩ = (sgb sq ak f wi A n c)[j]? := fun j => (World.cell?_of_block (Below.heap_setCell w1 _ _ w.heap.size hne)).trans ((hbs.cell (p := ⟨w.heap.size, j, none⟩) (by simp)).trans (hkb.cell j))
        have hsz : w.heap.size < (w1.setCell ⟨q, 12, none⟩ (.bool true)).heap.size := by have := hbs.size; simp at this ⊢; omega
        dsimp only [rcells, sgb] at hc0 hkc
        clear hbs h0 a1W hbb
        go_wp2
        clear hc0 hf0 hlt0
        obtain ⟨W, hW⟩ : ∃ W, W = w1.setCell ⟨q, 12, none⟩ (.bool true) := ⟨_, rfl⟩
        rw [← hW] at h1W a0W hkc hsz ⊢
        clear hW
        have H1 : Hid (RSt W B q { s with due := true } (.slice A0 s.said.length c0) (.slice A' s.got.length c')) := Lib.hid h1W
        have hc := h1W.blk.cell
        have hlt := h1W.blk.lt
        dsimp only [rcells] at hc
        have HA0 := Lib.hid a0W
        clear h1W a0W
        go_quiet (fail)
        go_wp2
        obtain ⟨W2, hW2⟩ : ∃ W2, W2 = W.drewN nq := ⟨_, rfl⟩
        rw [← hW2]
        have hbW : Below W.heap.size W W2 := by rw [hW2]; exact st_drewN (Below.refl _ _) _
        have hkc2 : ∀ j, W2.cell? ⟨w.heap.size, j, none⟩ = (sgb sq ak f wi A n c)[j]? := by rw [hW2]; exact hkc
        have hsz2 : w.heap.size < W2.heap.size := by rw [hW2]; exact hsz
        dsimp only [sgb] at hkc2
        clear hW2 hc hkc hlt hsz
        have H2 : Hid (RSt W2 B q { s with due := true } (.slice A0 s.said.length c0) (.slice A' s.got.length c')) := Lib.hid (Ob2.grow H1.out hbW)
        have HA2 := Lib.hid (HA0.out.more hbW)
        have HAW : Hid (∀ x : Near W2.heap.size W2, Calls Try.prog 115 #[.pointer (some ⟨q, 0, none⟩)] x.val fun e w' => e = .returned (.int .u32 s.awI) ∧ Below x.val.heap.size x.val w') := Lib.hid (fun x => rawaited (s := { s with due := true }) (Ob2.grow H2.out x.prop))
        have hc : ∀ j, W2.cell? ⟨q, j, none⟩ = (rcells { s with due := true } (.slice A0 s.said.length c0) (.slice A' s.got.length c'))[j]? := (Ob2.blk H2.out).cell
        have hlt2 := (Ob2.blk H2.out).lt
        have HFIN : Hid (∀ w', Below W2.heap.size W2 w' → RSGo w B q (.slice A0 s.said.length c0) (.slice A' s.got.length c') { s with due := true } w') := Lib.hid (fun w' hb => (HA2.out.more hb).go (Ob2.grow H2.out hb))
        dsimp only [rcells] at hc
        clear hbW H1 HA0
        rw [hfi] at hc
        clear hfi
        refine wp_region_near W2.heap.size (by kernel_rfl) (by kernel_rfl) ?_
        repeat (go_big_quiet_step (first | (go_at_call 115; exact Calls.near (Near.prop _).size (HAW.out _))))
        refine wpQuiet_nil ?_
        intro w3 hb3
        go_wp2
        exact bodyPost_ret (v := .tuple #[]) (by simp [results, Try.results101, go_sem]) rfl ⟨rfl, HFIN.out _ hb3⟩
    · have t2 : (sq == s.awI) = false := by simpa using hsa
      clear hb hsa hf2
      go_enter Try.func101, Try.ntmps101
      go_wp2_with fail
      refine (HSP.out _).mono ?_
      rintro e w1 ⟨rfl, hbs⟩
      have hbb : Below w.heap.size w w1 := ((Below.refl w.heap.size w).alloc (Nat.le_refl _) (.cells (sgb sq ak f wi A n c) 25)).trans (hbs.mono (by simp))
      have h0 := HGB.out w1 hbb
      obtain ⟨h1W, a1W⟩ := h0.set1 (cs' := rcells { s with due := true }) 12 (.bool true) (by simp [rcells])
      have a0W := (At2.grow (g := q) (vo := .slice A0 s.said.length c0) (vi := .slice A' s.got.length c') hbb).trans a1W
      have hc0 := h0.blk.cell 12
      have hf0 := h0.blk.free 12
      have hlt0 := h0.blk.lt
      have hkc : ∀ j, (w1.setCell ⟨q, 12, none⟩ (.bool true)).cell? ⟨w.heap.size, j, none⟩ = (sgb sq ak f wi A n c)[j]? := fun j => (World.cell?_of_block (Below.heap_setCell w1 _ _ w.heap.size hne)).trans ((hbs.cell (p := ⟨w.heap.size, j, none⟩) (by simp)).trans (hkb.cell j))
      have hsz : w.heap.size < (w1.setCell ⟨q, 12, none⟩ (.bool true)).heap.size := by have := hbs.size; simp at this ⊢; omega
      dsimp only [rcells, sgb] at hc0 hkc
      clear hbs h0 a1W hbb
      go_wp2
      clear hc0 hf0 hlt0
      obtain ⟨W, hW⟩ : ∃ W, W = w1.setCell ⟨q, 12, none⟩ (.bool true) := ⟨_, rfl⟩
      rw [← hW] at h1W a0W hkc hsz ⊢
      clear hW
      have H1 : Hid (RSt W B q { s with due := true } (.slice A0 s.said.length c0) (.slice A' s.got.length c')) := Lib.hid h1W
      have hc := h1W.blk.cell
      have hlt := h1W.blk.lt
      dsimp only [rcells] at hc
      have HA0 := Lib.hid a0W
      clear h1W a0W
      go_quiet (fail)
      go_wp2
      obtain ⟨W2, hW2⟩ : ∃ W2, W2 = W.drewN nq := ⟨_, rfl⟩
      rw [← hW2]
      have hbW : Below W.heap.size W W2 := by rw [hW2]; exact st_drewN (Below.refl _ _) _
      have hkc2 : ∀ j, W2.cell? ⟨w.heap.size, j, none⟩ = (sgb sq ak f wi A n c)[j]? := by rw [hW2]; exact hkc
      have hsz2 : w.heap.size < W2.heap.size := by rw [hW2]; exact hsz
      dsimp only [sgb] at hkc2
      clear hW2 hc hkc hlt hsz
      have H2 : Hid (RSt W2 B q { s with due := true } (.slice A0 s.said.length c0) (.slice A' s.got.length c')) := Lib.hid (Ob2.grow H1.out hbW)
      have HA2 := Lib.hid (HA0.out.more hbW)
      have HAW : Hid (∀ x : Near W2.heap.size W2, Calls Try.prog 115 #[.pointer (some ⟨q, 0, none⟩)] x.val fun e w' => e = .returned (.int .u32 s.awI) ∧ Below x.val.heap.size x.val w') := Lib.hid (fun x => rawaited (s := { s with due := true }) (Ob2.grow H2.out x.prop))
      have hc : ∀ j, W2.cell? ⟨q, j, none⟩ = (rcells { s with due := true } (.slice A0 s.said.length c0) (.slice A' s.got.length c'))[j]? := (Ob2.blk H2.out).cell
      have hlt2 := (Ob2.blk H2.out).lt
      have HFIN : Hid (∀ w', Below W2.heap.size W2 w' → RSGo w B q (.slice A0 s.said.length c0) (.slice A' s.got.length c') { s with due := true } w') := Lib.hid (fun w' hb => (HA2.out.more hb).go (Ob2.grow H2.out hb))
      dsimp only [rcells] at hc
      clear hbW H1 HA0
      refine wp_region_near W2.heap.size (by kernel_rfl) (by kernel_rfl) ?_
      repeat (go_big_quiet_step (first | (go_at_call 115; exact Calls.near (Near.prop _).size (HAW.out _))))
      refine wpQuiet_nil ?_
      intro w3 hb3
      go_wp2
      exact bodyPost_ret (v := .tuple #[]) (by simp [results, Try.results101, go_sem]) rfl ⟨rfl, HFIN.out _ hb3⟩
  · have t1 : (f % 2 == 0) = false := by rw [hf2]; rfl
    clear hb hf2
    go_enter Try.func101, Try.ntmps101
    go_wp2_with fail
    refine (HSP.out _).mono ?_
    rintro e w1 ⟨rfl, hbs⟩
    have hbb : Below w.heap.size w w1 := ((Below.refl w.heap.size w).alloc (Nat.le_refl _) (.cells (sgb sq ak f wi A n c) 25)).trans (hbs.mono (by simp))
    have h0 := HGB.out w1 hbb
    obtain ⟨h1W, a1W⟩ := h0.set1 (cs' := rcells { s with due := true }) 12 (.bool true) (by simp [rcells])
    have a0W := (At2.grow (g := q) (vo := .slice A0 s.said.length c0) (vi := .slice A' s.got.length c') hbb).trans a1W
    have hc0 := h0.blk.cell 12
    have hf0 := h0.blk.free 12
    have hlt0 := h0.blk.lt
    have hkc : ∀ j, (w1.setCell ⟨q, 12, none⟩ (.bool true)).cell? ⟨w.heap.size, j, none⟩ = (sgb sq ak f wi A n c)[j]? := fun j => (World.cell?_of_block (Below.heap_setCell w1 _ _ w.heap.size hne)).trans ((hbs.cell (p := ⟨w.heap.size, j, none⟩) (by simp)).trans (hkb.cell j))
    have hsz : w.heap.size < (w1.setCell ⟨q, 12, none⟩ (.bool true)).heap.size := by have := hbs.size; simp at this ⊢; omega
    dsimp only [rcells, sgb] at hc0 hkc
    clear hbs h0 a1W hbb
    go_wp2
    clear hc0 hf0 hlt0
    obtain ⟨W, hW⟩ : ∃ W, W = w1.setCell ⟨q, 12, none⟩ (.bool true) := ⟨_, rfl⟩
    rw [← hW] at h1W a0W hkc hsz ⊢
    clear hW
    have H1 : Hid (RSt W B q { s with due := true } (.slice A0 s.said.length c0) (.slice A' s.got.length c')) := Lib.hid h1W
    have hc := h1W.blk.cell
    have hlt := h1W.blk.lt
    dsimp only [rcells] at hc
    have HA0 := Lib.hid a0W
    clear h1W a0W
    go_quiet (fail)
    go_wp2
    obtain ⟨W2, hW2⟩ : ∃ W2, W2 = W.drewN nq := ⟨_, rfl⟩
    rw [← hW2]
    have hbW : Below W.heap.size W W2 := by rw [hW2]; exact st_drewN (Below.refl _ _) _
    have hkc2 : ∀ j, W2.cell? ⟨w.heap.size, j, none⟩ = (sgb sq ak f wi A n c)[j]? := by rw [hW2]; exact hkc
    have hsz2 : w.heap.size < W2.heap.size := by rw [hW2]; exact hsz
    dsimp only [sgb] at hkc2
    clear hW2 hc hkc hlt hsz
    have H2 : Hid (RSt W2 B q { s with due := true } (.slice A0 s.said.length c0) (.slice A' s.got.length c')) := Lib.hid (Ob2.grow H1.out hbW)
    have HA2 := Lib.hid (HA0.out.more hbW)
    have HAW : Hid (∀ x : Near W2.heap.size W2, Calls Try.prog 115 #[.pointer (some ⟨q, 0, none⟩)] x.val fun e w' => e = .returned (.int .u32 s.awI) ∧ Below x.val.heap.size x.val w') := Lib.hid (fun x => rawaited (s := { s with due := true }) (Ob2.grow H2.out x.prop))
    have hc : ∀ j, W2.cell? ⟨q, j, none⟩ = (rcells { s with due := true } (.slice A0 s.said.length c0) (.slice A' s.got.length c'))[j]? := (Ob2.blk H2.out).cell
    have hlt2 := (Ob2.blk H2.out).lt
    have HFIN : Hid (∀ w', Below W2.heap.size W2 w' → RSGo w B q (.slice A0 s.said.length c0) (.slice A' s.got.length c') { s with due := true } w') := Lib.hid (fun w' hb => (HA2.out.more hb).go (Ob2.grow H2.out hb))
    dsimp only [rcells] at hc
    clear hbW H1 HA0
    refine wp_region_near W2.heap.size (by kernel_rfl) (by kernel_rfl) ?_
    repeat (go_big_quiet_step (first | (go_at_call 115; exact Calls.near (Near.prop _).size (HAW.out _))))
    refine wpQuiet_nil ?_
    intro w3 hb3
    go_wp2
    exact bodyPost_ret (v := .tuple #[]) (by simp [results, Try.results101, go_sem]) rfl ⟨rfl, HFIN.out _ hb3⟩
set_option maxHeartbeats 2000000 in
set_option maxRecDepth 100000 in
theorem rdata2 (h : RSt w B q s vo vi) (hB : B ≤ w.heap.size) (x : Sg) (hx : x.Fine) (A : Option Addr) (n c : Nat) (hd : Far w q vo vi A n x.dat) (hnc : n ≤ c) (hcm : c ≤ 9223372036854775807) (hz : x.span ≠ 0) (hrd : s.rd ≤ s.got.length) (hgm : s.got.length ≤ 1000000)
    (hb : x.syn = false ∧ x.seq = s.awI ∧ s.fin = false ∧ s.inn.length + x.dat.length ≤ 64) :
    Calls Try.prog 101 #[.pointer (some ⟨q, 0, none⟩), .agg #[.int .u32 x.seq, .int .u32 x.ack, .int .i64 x.flags, .int .i64 x.window, .slice A n c]] w (RRetV w B q vo vi (s.dataS x)) := by
  have hln := hd.len
  have hn : n ≤ 32 := by rw [← hln]; exact hx.len
  have HSP := Lib.hid (fun W => segSpan_any x.seq x.ack x.flags x.window A n c W (by unfold maxLen; omega))
  obtain ⟨sp, hsp⟩ : ∃ sp, spanF x.flags n = sp := ⟨_, rfl⟩
  have hsp0 : sp ≠ 0 := fun e => hz (by have := sg_span x hx.flags; rw [hln, hsp, e] at this; omega)
  rw [spanI_small hn, hsp] at HSP
  have e1 : s.dataS x = { s with due := true, got := s.got ++ x.dat, fin := x.fi } := (if_neg hz).trans (if_pos hb)
  have HBY := Lib.hid (byt_app (Ob2.bi h) hd.byt)
  obtain ⟨i0, ii, hz0, hz1, hz2⟩ := info_parts pu8info
  have HD := Lib.hid hd
  have hfie : x.fi = decide (x.flags / 4 % 2 = 1) := rfl
  have HLT := Lib.hid h.lt
  rw [e1]
  rw [hln, show s.inn.length = s.got.length - s.rd by simp [Sm.inn]] at hb
  have hsy : x.syn = decide (x.flags % 2 = 1) := rfl
  rw [hsy] at hb
  rw [hfie]
  generalize x.dat = ds at *
  clear hfie
  obtain ⟨b1, b2, b4, b8⟩ := flag_bits hx.flags.1 hx.flags.2
  have hf2 : x.flags % 2 = 0 ∨ x.flags % 2 = 1 := by omega
  generalize x.flags = f at *
  generalize x.seq = sq at *
  generalize x.ack = ak at *
  generalize x.window = wi at *
  have HGB := Lib.hid (fun w' (hb : Below w.heap.size w w') => Ob2.grow h hb)
  have hne : ¬ w.heap.size = q := by have := (Ob2.blk h).lt; omega
  have hkb := (Blk.new w (sgb sq ak f wi A n c) 25)
  have d1 : (sp == 0) = false := by simpa using hsp0
  obtain ⟨A0, c0, A', c', rfl, rfl, h1, h2, h3, h4⟩ := h.look
  clear e1 hsp hz hx hd h hsy hsp0
  have pr : ∀ (Q : Ending → World → Prop) (f : Nat), Q = Q := fun _ _ => rfl
  clear pr
  obtain ⟨hsy0, hsa, hfi, hfit⟩ := hb
  have hf0 : f % 2 = 0 := by simp at hsy0; omega
  have t1 : (f % 2 == 0) = true := by simpa using hf0
  have t2 : (sq == s.awI) = true := by simpa using hsa
  have t3 : decide ((s.got.length : Int) - s.rd + n ≤ 64) = true := by simp; omega
  clear hsy0 hsa hfit hf0 hf2
  go_enter Try.func101, Try.ntmps101
  go_wp2_with fail
  refine (HSP.out _).mono ?_
  rintro e w1 ⟨rfl, hbs⟩
  have hbb : Below w.heap.size w w1 := ((Below.refl w.heap.size w).alloc (Nat.le_refl _) (.cells (sgb sq ak f wi A n c) 25)).trans (hbs.mono (by simp))
  have h0 := HGB.out w1 hbb
  obtain ⟨h1W, a1W⟩ := h0.set1 (cs' := rcells { s with due := true }) 12 (.bool true) (by simp [rcells])
  have a0W := (At2.grow (g := q) (vo := .slice A0 s.said.length c0) (vi := .slice A' s.got.length c') hbb).trans a1W
  have hc0 := h0.blk.cell 12
  have hf0 := h0.blk.free 12
  have hlt0 := h0.blk.lt
  have hkc : ∀ j, (w1.setCell ⟨q, 12, none⟩ (.bool true)).cell? ⟨w.heap.size, j, none⟩ = (sgb sq ak f wi A n c)[j]? := fun j => (World.cell?_of_block (Below.heap_setCell w1 _ _ w.heap.size hne)).trans ((hbs.cell (p := ⟨w.heap.size, j, none⟩) (by simp)).trans (hkb.cell j))
  have hsz : w.heap.size < (w1.setCell ⟨q, 12, none⟩ (.bool true)).heap.size := by have := hbs.size; simp at this ⊢; omega
  dsimp only [rcells, sgb] at hc0 hkc
  clear hbs h0 a1W hbb
  go_wp2
  clear hc0 hf0 hlt0
  obtain ⟨W, hW⟩ : ∃ W, W = w1.setCell ⟨q, 12, none⟩ (.bool true) := ⟨_, rfl⟩
  rw [← hW] at h1W a0W hkc hsz ⊢
  clear hW
  have H1 : Hid (RSt W B q { s with due := true } (.slice A0 s.said.length c0) (.slice A' s.got.length c')) := Lib.hid h1W
  have hc := h1W.blk.cell
  have hlt := h1W.blk.lt
  dsimp only [rcells] at hc
  have HA0 := Lib.hid a0W
  clear h1W a0W
  go_quiet (fail)
  go_wp2
  obtain ⟨W2, hW2⟩ : ∃ W2, W2 = W.drewN nq := ⟨_, rfl⟩
  rw [← hW2]
  have hbW : Below W.heap.size W W2 := by rw [hW2]; exact st_drewN (Below.refl _ _) _
  have hkc2 : ∀ j, W2.cell? ⟨w.heap.size, j, none⟩ = (sgb sq ak f wi A n c)[j]? := by rw [hW2]; exact hkc
  have hsz2 : w.heap.size < W2.heap.size := by rw [hW2]; exact hsz
  dsimp only [sgb] at hkc2
  clear hW2 hc hkc hlt hsz
  have H2 : Hid (RSt W2 B q { s with due := true } (.slice A0 s.said.length c0) (.slice A' s.got.length c')) := Lib.hid (Ob2.grow H1.out hbW)
  have HA2 := Lib.hid (HA0.out.more hbW)
  have HAW : Hid (∀ x : Near W2.heap.size W2, Calls Try.prog 115 #[.pointer (some ⟨q, 0, none⟩)] x.val fun e w' => e = .returned (.int .u32 s.awI) ∧ Below x.val.heap.size x.val w') := Lib.hid (fun x => rawaited (s := { s with due := true }) (Ob2.grow H2.out x.prop))
  have hc : ∀ j, W2.cell? ⟨q, j, none⟩ = (rcells { s with due := true } (.slice A0 s.said.length c0) (.slice A' s.got.length c'))[j]? := (Ob2.blk H2.out).cell
  have hlt2 := (Ob2.blk H2.out).lt
  have HFIN : Hid (∀ w', Below W2.heap.size W2 w' → RSGo w B q (.slice A0 s.said.length c0) (.slice A' s.got.length c') { s with due := true } w') := Lib.hid (fun w' hb => (HA2.out.more hb).go (Ob2.grow H2.out hb))
  dsimp only [rcells] at hc
  clear hbW H1 HA0
  rw [hfi] at hc
  refine wp_region_near W2.heap.size (by kernel_rfl) (by kernel_rfl) ?_
  repeat (go_big_quiet_step (first | (go_at_call 115; exact Calls.near (Near.prop _).size (HAW.out _))))
  refine wpQuiet_nil ?_
  intro w3 hb3
  have H3 : Hid (RSt w3 B q { s with due := true } (.slice A0 s.said.length c0) (.slice A' s.got.length c')) := Lib.hid (Ob2.grow H2.out hb3)
  have HA3 := Lib.hid (HA2.out.more hb3)
  have hkc3 : ∀ j, w3.cell? ⟨w.heap.size, j, none⟩ = (sgb sq ak f wi A n c)[j]? := fun j => (hb3.cell (p := ⟨w.heap.size, j, none⟩) hsz2).trans (hkc2 j)
  have hsz3 : w.heap.size < w3.heap.size := Nat.lt_of_lt_of_le hsz2 hb3.size
  have hc4 : w3.cell? ⟨q, 4, none⟩ = some (.slice A' s.got.length c') := (Ob2.blk H3.out).cell 4
  have hk4 : w3.cell? ⟨w.heap.size, 4, none⟩ = some (.slice A n c) := hkc3 4
  have hlt3 := (Ob2.blk H3.out).lt
  have HRD : Hid (Reads w3 w3.heap.size 1 A n (ds.map (Value.int .u8))) := Lib.hid (HD.out.at HA3.out).1.1
  have hB3 : B ≤ w3.heap.size := Nat.le_trans hB HA3.out.1.size
  have HROW := Lib.hid (Ob2.ri H3.out)
  have HONE := Lib.hid (u8_oneCell ds)
  have HLN2 : Hid ((s.got ++ ds).length = s.got.length + n) := Lib.hid (by rw [List.length_append, hln])
  have hng : (Value.slice A' s.got.length c').ownBlock ≠ some q := Ob2.ni H3.out
  have HAPP : Hid (∀ w9 A9 c9 W3, Fr (fun k => (Value.slice A' s.got.length c').ownBlock = some k) w3 w9 → Row w9 B 5 1 (.slice A9 (s.got.length + n) c9) (s.got.length + n) (s.got.map (Value.int .u8) ++ ds.map (Value.int .u8)) → (∀ k, (Value.slice A9 (s.got.length + n) c9).ownBlock = some k → (Value.slice A' s.got.length c').ownBlock = some k ∨ w3.heap.size ≤ k) →
      (W3 = w9.setCell ⟨q, 4, none⟩ (.slice A9 (s.got.length + n) c9) ∨ W3 = (w9.setCell ⟨q, 4, none⟩ (.slice A9 (s.got.length + n) c9)).drew) →
      W3.cell? ⟨w.heap.size, 2, none⟩ = some (.int .i64 f) ∧ q < W3.heap.size ∧ W3.cell? ⟨q, 11, none⟩ = some (.bool s.fin) ∧ (∀ j, W3.frozen? ⟨q, j, none⟩ = false) ∧ (∀ bb, bb = decide (f / 4 % 2 = 1) → RSGo w B q (.slice A0 s.said.length c0) (.slice A' s.got.length c') { s with due := true, got := s.got ++ ds, fin := decide (f / 4 % 2 = 1) } (W3.setCell ⟨q, 11, none⟩ (.bool bb)))) := Lib.hid (fun w9 A9 c9 W3 hf hr ho hW => by
    have hX := Ob2.setI1 (cs' := rcells { s with due := true, got := s.got ++ ds }) H3.out hf (by rw [HLN2.out, List.map_append]; exact hr) HBY.out ho ((Fr.refl (fun k => k = q) w9).setCell (p := ⟨q, 4, none⟩) (fun _ => rfl) (.slice A9 (s.got.length + n) c9)) ((H3.out.blk.fr hf H3.out.ni).set 4 (.slice A9 (s.got.length + n) c9)) (by simp [rcells])
    have hv : ¬ (Value.slice A' s.got.length c').ownBlock = some w.heap.size := fun e => by have := (HLT.out _ (.inr (.inr e))).2; omega
    have hcl : (w9.setCell ⟨q, 4, none⟩ (.slice A9 (s.got.length + n) c9)).cell? ⟨w.heap.size, 2, none⟩ = some (.int .i64 f) := (World.cell?_of_block (Below.heap_setCell w9 _ _ w.heap.size hne)).trans ((hf.cell (p := ⟨w.heap.size, 2, none⟩) hsz3 hv).trans (hkc3 2))
    have fin : ∀ W3, Ob2 W3 B q 66 (rcells { s with due := true, got := s.got ++ ds }) (.slice A0 s.said.length c0) (.slice A9 (s.got.length + n) c9) s.said (s.got ++ ds) → At2 w q (.slice A0 s.said.length c0) (.slice A' s.got.length c') W3 (.slice A0 s.said.length c0) (.slice A9 (s.got.length + n) c9) → W3.cell? ⟨w.heap.size, 2, none⟩ = some (.int .i64 f) →
      W3.cell? ⟨w.heap.size, 2, none⟩ = some (.int .i64 f) ∧ q < W3.heap.size ∧ W3.cell? ⟨q, 11, none⟩ = some (.bool s.fin) ∧ (∀ j, W3.frozen? ⟨q, j, none⟩ = false) ∧ (∀ bb, bb = decide (f / 4 % 2 = 1) → RSGo w B q (.slice A0 s.said.length c0) (.slice A' s.got.length c') { s with due := true, got := s.got ++ ds, fin := decide (f / 4 % 2 = 1) } (W3.setCell ⟨q, 11, none⟩ (.bool bb))) := fun W3 o3 a3 k3 => by
        refine ⟨k3, o3.blk.lt, o3.blk.cell 11, o3.blk.free, fun bb hbb => ?_⟩
        subst hbb
        have h7 := o3.set1 (cs' := rcells { s with due := true, got := s.got ++ ds, fin := decide (f / 4 % 2 = 1) }) 11 (.bool (decide (f / 4 % 2 = 1))) (by simp [rcells])
        exact (a3.trans h7.2).go h7.1
    rcases hW with rfl | rfl
    · exact fin _ hX.1 (HA3.out.trans hX.2) hcl
    · exact fin _ (Ob2.grow hX.1 ((Below.refl _ _).drew)) ((HA3.out.trans hX.2).more ((Below.refl _ _).drew)) hcl)
  clear hc hkc2 hkc3 hb3 t1 t2 t3 hln hfi H2 HA2 HFIN HAW HGB HSP hkb hlt2
  have hgm2 := hgm
  generalize hl0 : s.got.length = l at *
  clear hl0
  go_wp2
  go_region_law (refine step_append_row rfl (.tmp 51) (.tmp 53) 23 rfl B 5 i0 (.int .u8 0) 1 1 Try.underlying23 ii hz0 hz1 hz2 rfl (by decide) (.slice A' l c') l (s.got.map (Value.int .u8)) (by simp [Act.eval, Act.put]) HROW.out.drew w3.heap.size A n c (ds.map (Value.int .u8)) (by simp [Act.eval, Act.put]) HRD.out.drew HONE.out (by unfold maxLen; omega) (by omega) (by simpa using hB3) ?_; intro A9 c9 w9 hr9 hg9 ho9; have hf9 : Fr (fun k => (Value.slice A' l c').ownBlock = some k) w3 w9 := ((Fr.refl _ w3).drew).grown hg9 (fun k e _ => e); have kb9 := H3.out.blk.fr hf9 hng; have k94 : w9.cell? ⟨q, 4, none⟩ = some (.slice A' l c') := kb9.cell 4; have kl9 := kb9.lt; have kf9 := kb9.free 4)
  all_goals
    first
    | (obtain ⟨k2, kl, k11, kf, HF0⟩ := HAPP.out w9 A9 c9 _ hf9 hr9 (fun k hk => by rcases own_cases ho9 hk with h1 | h1; exact .inl h1; simp at h1; exact .inr (by omega)) (.inl rfl)
       generalize w9.setCell ⟨q, 4, none⟩ (.slice A9 (l + n) c9) = W3 at *
       have HF := Lib.hid HF0
       clear HF0 hf9 hr9 ho9 hg9 kb9 k94 kl9 kf9 hc4 hk4 hlt3
       go_wp2
       exact bodyPost_ret (v := .tuple #[]) (by simp [results, Try.results101, go_sem]) rfl ⟨rfl, HF.out _ (fin_bit f)⟩)
    | (obtain ⟨k2, kl, k11, kf, HF0⟩ := HAPP.out w9 A9 c9 _ hf9 hr9 (fun k hk => by rcases own_cases ho9 hk with h1 | h1; exact .inl h1; simp at h1; exact .inr (by omega)) (.inr rfl)
       generalize (w9.setCell ⟨q, 4, none⟩ (.slice A9 (l + n) c9)).drew = W3 at *
       have HF := Lib.hid HF0
       clear HF0 hf9 hr9 ho9 hg9 kb9 k94 kl9 kf9 hc4 hk4 hlt3
       go_wp2
       exact bodyPost_ret (v := .tuple #[]) (by simp [results, Try.results101, go_sem]) rfl ⟨rfl, HF.out _ (fin_bit f)⟩)
theorem rdata (h : RSt w B q s vo vi) (hB : B ≤ w.heap.size) (x : Sg) (hx : x.Fine) (A : Option Addr) (n c : Nat) (hd : Far w q vo vi A n x.dat) (hnc : n ≤ c) (hcm : c ≤ 9223372036854775807) (hrd : s.rd ≤ s.got.length) (hgm : s.got.length ≤ 1000000) :
    Calls Try.prog 101 #[.pointer (some ⟨q, 0, none⟩), .agg #[.int .u32 x.seq, .int .u32 x.ack, .int .i64 x.flags, .int .i64 x.window, .slice A n c]] w (RRetV w B q vo vi (s.dataS x)) := by
  by_cases hz : x.span = 0
  · exact rdata0 h hB x hx A n c hd hz
  · by_cases hb : x.syn = false ∧ x.seq = s.awI ∧ s.fin = false ∧ s.inn.length + x.dat.length ≤ 64
    · exact rdata2 h hB x hx A n c hd hnc hcm hz hrd hgm hb
    · exact rdata1 h hB x hx A n c hd hnc hcm hz hrd hgm hb
end
end Go.Proofs.Ythlhjaacjhlkhaa
