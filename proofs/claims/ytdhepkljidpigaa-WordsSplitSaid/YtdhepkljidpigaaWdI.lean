/- (*words.reader).variable (printed by mkWdI.py). -/
import Derived.Test.YtdhepkljidpigaaWdH
import Derived.Deep.CutBlock
import Derived.Deep.DeepCutAuto
import Derived.Deep.Light
namespace Go.Proofs.Ytdhepkljidpigaa
open Go.RowKit
set_option maxHeartbeats 400000
set_option linter.unusedVariables false
set_option linter.unusedSimpArgs false
/-- Where the reader goes on behind a sign $ at place k, and its parts there. -/
def varK (s : ByteArray) (k : Nat) : Nat := k + 1 + varN (s.extract (k + 1) s.size)
def varP (s : ByteArray) (k : Nat) (ps : List Pt) (q : Bool) : List Pt :=
  if varN (s.extract (k + 1) s.size) = 0 then addP ps ⟨#[36]⟩ q else ps ++ [⟨s.extract (k + 1) (k + 1 + varN (s.extract (k + 1) s.size)), true, q⟩]
theorem cut_cut (s : ByteArray) (a i j : Nat) (h : a + j ≤ s.size) : (s.extract a s.size).extract i j = s.extract (a + i) (a + j) := by
  rw [ByteArray.extract_extract, Nat.min_eq_left h]
theorem nm_cut (s : ByteArray) (a j : Nat) (h : a + (j + 1) ≤ s.size) : s.extract a (a + j + 1) = (s.extract a s.size).extract 0 (j + 1) := by
  rw [cut_cut s a 0 (j + 1) h, Nat.add_assoc]; rfl
theorem bt_cut (s : ByteArray) (a k : Nat) (h : a + k < s.size) : bt (s.extract a s.size) k = bt s (a + k) := by
  unfold bt
  rw [nums_cut, List.take_of_length_le (by rw [nums_len]; exact Nat.le_refl _)]
  simp [List.getD, List.getElem?_drop]
theorem cut_size (s : ByteArray) (a : Nat) : (s.extract a s.size).size = s.size - a := by simp
/-- The reader at a later place in a later world. -/
def VMid (w : World) (B g : Nat) (s : ByteArray) (k : Nat) (bad : Int) (A : Option Addr) (n c : Nat) (ps : List Pt) (wx : World) : Prop := RdSt wx B g s k bad A n c ps ∧ FrG B g w wx
theorem VMid.drew {w : World} {B g : Nat} {s : ByteArray} {k : Nat} {bad : Int} {A : Option Addr} {n c : Nat} {ps : List Pt} {wx : World} (h : VMid w B g s k bad A n c ps wx) : VMid w B g s k bad A n c ps wx.drew := ⟨h.1.drew, h.2.drew⟩
theorem VMid.drewN {w : World} {B g : Nat} {s : ByteArray} {k : Nat} {bad : Int} {A : Option Addr} {n c : Nat} {ps : List Pt} {wx : World} (h : VMid w B g s k bad A n c ps wx) : ∀ j, VMid w B g s k bad A n c ps (wx.drewN j)
  | 0 => h
  | j + 1 => (h.drewN j).drew
theorem VMid.setAt {w : World} {B g : Nat} {s : ByteArray} {k : Nat} {bad : Int} {A : Option Addr} {n c : Nat} {ps : List Pt} {wx : World} (h : VMid w B g s k bad A n c ps wx) (k' : Nat) : VMid w B g s k' bad A n c ps (wx.setCell ⟨g, 1, none⟩ (.int .i64 k')) :=
  ⟨h.1.setAt k', h.2.setCell (.inl rfl) _⟩
theorem VMid.setBad {w : World} {B g : Nat} {s : ByteArray} {k : Nat} {bad : Int} {A : Option Addr} {n c : Nat} {ps : List Pt} {wx : World} (h : VMid w B g s k bad A n c ps wx) (b' : Int) : VMid w B g s k b' A n c ps (wx.setCell ⟨g, 3, none⟩ (.int .i64 b')) :=
  ⟨h.1.setBad b', h.2.setCell (.inl rfl) _⟩
theorem VMid.post {w : World} {B g : Nat} {s : ByteArray} {k : Nat} {bad : Int} {A : Option Addr} {n c : Nat} {ps : List Pt} {wx : World} (h : VMid w B g s k bad A n c ps wx) : RdPost B g s k bad ps w (.returned (.tuple #[])) wx := ⟨rfl, ⟨A, n, c, h.1⟩, h.2⟩
theorem VMid.name {w : World} {B g : Nat} {s : ByteArray} {k : Nat} {bad : Int} {A : Option Addr} {n c : Nat} {ps : List Pt} {wx : World} (h : VMid w B g s k bad A n c ps wx) :
    (∀ j, wx.cell? ⟨g, j, none⟩ = #[Value.string s, .int .i64 k, .slice A n c, .int .i64 bad][j]?) ∧ g < wx.heap.size ∧ ∀ j, wx.frozen? ⟨g, j, none⟩ = false := ⟨h.1.blk.cell, h.1.blk.lt, h.1.blk.free⟩
theorem VMid.app {w wS w1 : World} {B g : Nat} {s : ByteArray} {k : Nat} {bad : Int} {A : Option Addr} {n c : Nat} {ps : List Pt} {p : Pt} {A2 : Option Addr} {c2 : Nat} (h : VMid w B g s k bad A n c ps wS)
    (hf : Fr (fun k => (Value.slice A n c).ownBlock = some k) wS w1) (hr2 : Row w1 B 49 3 (.slice A2 (n + 1) c2) (n + 1) (ps.flatMap Pt.cells ++ p.cells)) :
    Blk w1 g #[.string s, .int .i64 k, .slice A n c, .int .i64 bad] 33 ∧ VMid w B g s k bad A2 (n + 1) c2 (ps ++ [p]) (w1.setCell ⟨g, 2, none⟩ (.slice A2 (n + 1) c2)) := by
  have hlt := h.1.lt
  have hb := h.1.base
  have hf' : FrG B g w w1 := h.2.trans (hf.mono fun k _ hk => .inr (h.1.pr.1.lt k hk).1)
  have hblk : Blk w1 g #[.string s, .int .i64 k, .slice A n c, .int .i64 bad] 33 := h.1.blk.fr hf (fun e => by have e1 : B ≤ g := (h.1.pr.1.lt g e).1; omega)
  have hs := hf.size
  refine ⟨hblk, ⟨by simpa using hblk.set 2 (.slice A2 (n + 1) c2), ?_, hlt, by simp; omega⟩, hf'.setCell (.inl rfl) _⟩
  refine ⟨?_, by simp [h.1.pr.2]⟩
  rw [List.flatMap_append]
  simpa using hr2.setCell (p := ⟨g, 2, none⟩) (fun e => by have e1 : B ≤ g := (hr2.lt _ e).1; omega) (.slice A2 (n + 1) c2)
set_option maxHeartbeats 4000000 in
set_option maxRecDepth 100000 in
theorem variable_any (B g : Nat) (s : ByteArray) (k : Nat) (bad : Int) (A : Option Addr) (n c : Nat) (ps : List Pt) (q : Bool) (w : World) (h : RdSt w B g s k bad A n c ps) (hk : k < s.size) (hs : s.size ≤ 200) (hf : Few 900 ps) :
    Calls Try.prog 21 #[.pointer (some ⟨g, 0, none⟩), .bool q] w (RdPost B g s (varK s k) bad (varP s k ps q) w) := by
  obtain ⟨i0, hi, hz0, hz1, hz2⟩ := info_parts infoPt
  have hn : n ≤ 1000 := by have := hf.1; have := h.pr.2; omega
  have HV := Lib.hid (VMid.setAt (w := w) ⟨h, FrG.refl B g w⟩ (k + 1))
  obtain ⟨N, hN⟩ : ∃ N, varN (s.extract (k + 1) s.size) = N := ⟨_, rfl⟩
  have hNk : Hid (varK s k = k + 1 + N) := Lib.hid (by unfold varK; rw [hN])
  have hNle : N ≤ s.size - (k + 1) := by have := varN_le (s.extract (k + 1) s.size); rw [cut_size, hN] at this; exact this
  have hNp0 : Hid (N = 0 → varP s k ps q = addP ps ⟨#[36]⟩ q) := Lib.hid fun h0 => by unfold varP; rw [hN, if_pos h0]
  have hNp1 : Hid (N ≠ 0 → varP s k ps q = ps ++ [⟨s.extract (k + 1) (k + 1 + N), true, q⟩]) := Lib.hid fun h0 => by unfold varP; rw [hN, if_neg h0]
  have HN := Lib.hid hN
  clear hN
  have HF := Lib.hid hf
  clear hf
  have c0 := h.blk.cell
  have lg := h.blk.lt
  have fz := h.blk.free
  clear h
  go_enter Try.func21, Try.ntmps21
  go_upto_region 1 with fail
  obtain ⟨W, hW⟩ : ∃ W, W = w.setCell ⟨g, 1, none⟩ (.int .i64 ((k + 1 : Nat) : Int)) := ⟨_, rfl⟩
  rw [show ((k + 1 : Nat) : Int) = (k : Int) + 1 by omega] at hW
  rw [← hW]
  have HM : Hid (VMid w B g s (k + 1) bad A n c ps W) := Lib.hid (by rw [hW]; exact HV.out)
  clear c0 lg fz HV hW
  obtain ⟨kc, klt, kfz⟩ := HM.out.name
  have hP := HM.out.1.pr.1
  by_cases hlt : k + 1 < s.size
  · have hb0 := bt_at s (k + 1) hlt
    have hki : (k : Int) + 1 < s.size := by omega
    have hk0 : (0 : Int) ≤ (k : Int) + 1 := by omega
    by_cases hq : bt s (k + 1) = 63
    · have e1 : N = 1 := by
        have := HN.out
        unfold varN at this
        rw [if_pos ⟨by rw [cut_size]; omega, by rw [bt_cut _ _ _ (by omega)]; exact hq⟩] at this
        exact this.symm
      subst e1
      have hb1 : (s[k + 1]'hlt).toNat = 63 := hb0.trans hq
      clear hb0 hq kc klt kfz hP
      obtain ⟨kc, klt, kfz⟩ := HM.out.name
      go_wp2_with fail
      clear kc klt kfz
      obtain ⟨x, hx⟩ : ∃ x : Pt, x = ⟨s.extract (k + 1) (k + 1 + 1), true, q⟩ := ⟨_, rfl⟩
      have HXC : Hid (x.cells = [.string (s.extract (k + 1) (k + 1 + 1)), .bool true, .bool q]) := Lib.hid (by rw [hx]; rfl)
      have HPS : Hid (varP s k ps q = ps ++ [x]) := Lib.hid (by rw [hx]; exact hNp1.out (by omega))
      clear hx
      obtain ⟨wS, hwS⟩ : ∃ wS, wS = W := ⟨_, rfl⟩
      rw [← hwS]
      have HS := Lib.hid HM.out
      rw [← hwS] at HS
      have HRS := Lib.hid HS.out.1.pr.1
      have hBS := HS.out.1.base
      obtain ⟨qc, hlg, qfz⟩ := HS.out.name
      have hc0 := qc 0
      have hc1 := qc 1
      have hc2 := qc 2
      have hng : ¬ (Value.slice A n c).ownBlock = some g := fun e => by
        have e1 : B ≤ g := (HRS.out.lt g e).1
        have := HS.out.1.lt
        omega
      dsimp at hc0 hc1 hc2
      clear hwS qc qfz
      refine FR.wp_region_walk (AppF B 49 3 wS.heap.size A n c (n + 1) (ps.flatMap Pt.cells ++ x.cells)) (fun w' => Fr (fun k => (Value.slice A n c).ownBlock = some k) wS w' ∧ Row w' B 49 3 (.slice A n c) n (ps.flatMap Pt.cells)) [[], [], [(67, 1)], [(68, 2)], [(69, 3)], [], [(71, 5)], [(72, 6)], [(73, 7)], [], [(75, 9)], [(76, 10)], [(77, 11)], [], [(74, 8), (78, 12), (79, 13)], [], [(80, 14), (81, 15)], [(82, 16)], [(70, 4), (83, 17)], [(66, 0)], [(85, 19)]]
        [(66, 0), (67, 1), (68, 2), (69, 3), (70, 4), (71, 5), (72, 6), (73, 7), (74, 8), (75, 9), (76, 10), (77, 11), (78, 12), (79, 13), (80, 14), (81, 15), (82, 16), (83, 17), (84, 18), (85, 19), (86, 20)] (by kernel_rfl) (by kernel_rfl) (by kernel_rfl) ⟨(Fr.refl _ _).drew, HRS.out.drew⟩ ?_
      apply FR.Flow.det_step
      · go_light
        intro w1 hC1
        simp only [FR.Flow.fill, FR.Flow.after, FR.Flow.at_, List.nil_append, List.cons_append, List.getD_cons_zero, List.getD_cons_succ, FR.det, forall_eq, List.setIfInBounds_toArray, List.set_cons_zero, List.set_cons_succ, List.drop, List.length]
        obtain ⟨hf, hr⟩ := hC1
        have k0 := (hf.cell (p := ⟨g, 0, none⟩) hlg hng).trans hc0; have k1 := (hf.cell (p := ⟨g, 1, none⟩) hlg hng).trans hc1; have k2 := (hf.cell (p := ⟨g, 2, none⟩) hlg hng).trans hc2; have s1 := hf.size
        go_wp2
        exact FR.Flow.post_det ⟨hf, hr⟩ (AppF.refl _) rfl rfl
      apply FR.Flow.det_step
      · go_light
        intro w1 hC1
        simp only [FR.Flow.fill, FR.Flow.after, FR.Flow.at_, List.nil_append, List.cons_append, List.getD_cons_zero, List.getD_cons_succ, FR.det, forall_eq, List.setIfInBounds_toArray, List.set_cons_zero, List.set_cons_succ, List.drop, List.length]
        obtain ⟨hf, hr⟩ := hC1
        have k0 := (hf.cell (p := ⟨g, 0, none⟩) hlg hng).trans hc0; have k1 := (hf.cell (p := ⟨g, 1, none⟩) hlg hng).trans hc1; have k2 := (hf.cell (p := ⟨g, 2, none⟩) hlg hng).trans hc2; have s1 := hf.size
        go_wp2
        exact FR.Flow.post_det ⟨hf, hr⟩ (AppF.refl _) rfl rfl
      apply FR.Flow.det_step
      · go_light
        intro w1 hC1
        simp only [FR.Flow.fill, FR.Flow.after, FR.Flow.at_, List.nil_append, List.cons_append, List.getD_cons_zero, List.getD_cons_succ, FR.det, forall_eq, List.setIfInBounds_toArray, List.set_cons_zero, List.set_cons_succ, List.drop, List.length]
        obtain ⟨hf, hr⟩ := hC1
        have k0 := (hf.cell (p := ⟨g, 0, none⟩) hlg hng).trans hc0; have k1 := (hf.cell (p := ⟨g, 1, none⟩) hlg hng).trans hc1; have k2 := (hf.cell (p := ⟨g, 2, none⟩) hlg hng).trans hc2; have s1 := hf.size
        go_wp2
        exact FR.Flow.post_det ⟨hf, hr⟩ (AppF.refl _) rfl rfl
      apply FR.Flow.det_step
      · go_light
        intro w1 hC1
        simp only [FR.Flow.fill, FR.Flow.after, FR.Flow.at_, List.nil_append, List.cons_append, List.getD_cons_zero, List.getD_cons_succ, FR.det, forall_eq, List.setIfInBounds_toArray, List.set_cons_zero, List.set_cons_succ, List.drop, List.length]
        obtain ⟨hf, hr⟩ := hC1
        have k0 := (hf.cell (p := ⟨g, 0, none⟩) hlg hng).trans hc0; have k1 := (hf.cell (p := ⟨g, 1, none⟩) hlg hng).trans hc1; have k2 := (hf.cell (p := ⟨g, 2, none⟩) hlg hng).trans hc2; have s1 := hf.size
        go_wp2
        exact FR.Flow.post_det ⟨hf, hr⟩ (AppF.refl _) rfl rfl
      apply FR.Flow.det_step
      · go_light
        intro w1 hC1
        simp only [FR.Flow.fill, FR.Flow.after, FR.Flow.at_, List.nil_append, List.cons_append, List.getD_cons_zero, List.getD_cons_succ, FR.det, forall_eq, List.setIfInBounds_toArray, List.set_cons_zero, List.set_cons_succ, List.drop, List.length]
        obtain ⟨hf, hr⟩ := hC1
        have k0 := (hf.cell (p := ⟨g, 0, none⟩) hlg hng).trans hc0; have k1 := (hf.cell (p := ⟨g, 1, none⟩) hlg hng).trans hc1; have k2 := (hf.cell (p := ⟨g, 2, none⟩) hlg hng).trans hc2; have s1 := hf.size
        go_wp2
        exact FR.Flow.post_det ⟨hf, hr⟩ (AppF.refl _) rfl rfl
      apply FR.Flow.det_step
      · go_light
        intro w1 hC1
        simp only [FR.Flow.fill, FR.Flow.after, FR.Flow.at_, List.nil_append, List.cons_append, List.getD_cons_zero, List.getD_cons_succ, FR.det, forall_eq, List.setIfInBounds_toArray, List.set_cons_zero, List.set_cons_succ, List.drop, List.length]
        obtain ⟨hf, hr⟩ := hC1
        have k0 := (hf.cell (p := ⟨g, 0, none⟩) hlg hng).trans hc0; have k1 := (hf.cell (p := ⟨g, 1, none⟩) hlg hng).trans hc1; have k2 := (hf.cell (p := ⟨g, 2, none⟩) hlg hng).trans hc2; have s1 := hf.size
        go_wp2
        exact FR.Flow.post_det ⟨hf, hr⟩ (AppF.refl _) rfl rfl
      apply FR.Flow.det_step
      · go_light
        intro w1 hC1
        simp only [FR.Flow.fill, FR.Flow.after, FR.Flow.at_, List.nil_append, List.cons_append, List.getD_cons_zero, List.getD_cons_succ, FR.det, forall_eq, List.setIfInBounds_toArray, List.set_cons_zero, List.set_cons_succ, List.drop, List.length]
        obtain ⟨hf, hr⟩ := hC1
        have k0 := (hf.cell (p := ⟨g, 0, none⟩) hlg hng).trans hc0; have k1 := (hf.cell (p := ⟨g, 1, none⟩) hlg hng).trans hc1; have k2 := (hf.cell (p := ⟨g, 2, none⟩) hlg hng).trans hc2; have s1 := hf.size
        go_wp2
        exact FR.Flow.post_det ⟨hf, hr⟩ (AppF.refl _) rfl rfl
      apply FR.Flow.det_step
      · go_light
        intro w1 hC1
        simp only [FR.Flow.fill, FR.Flow.after, FR.Flow.at_, List.nil_append, List.cons_append, List.getD_cons_zero, List.getD_cons_succ, FR.det, forall_eq, List.setIfInBounds_toArray, List.set_cons_zero, List.set_cons_succ, List.drop, List.length]
        obtain ⟨hf, hr⟩ := hC1
        have k0 := (hf.cell (p := ⟨g, 0, none⟩) hlg hng).trans hc0; have k1 := (hf.cell (p := ⟨g, 1, none⟩) hlg hng).trans hc1; have k2 := (hf.cell (p := ⟨g, 2, none⟩) hlg hng).trans hc2; have s1 := hf.size
        go_wp2
        exact FR.Flow.post_det ⟨hf, hr⟩ (AppF.refl _) rfl rfl
      apply FR.Flow.det_step
      · go_light
        intro w1 hC1
        simp only [FR.Flow.fill, FR.Flow.after, FR.Flow.at_, List.nil_append, List.cons_append, List.getD_cons_zero, List.getD_cons_succ, FR.det, forall_eq, List.setIfInBounds_toArray, List.set_cons_zero, List.set_cons_succ, List.drop, List.length]
        obtain ⟨hf, hr⟩ := hC1
        have k0 := (hf.cell (p := ⟨g, 0, none⟩) hlg hng).trans hc0; have k1 := (hf.cell (p := ⟨g, 1, none⟩) hlg hng).trans hc1; have k2 := (hf.cell (p := ⟨g, 2, none⟩) hlg hng).trans hc2; have s1 := hf.size
        go_wp2
        exact FR.Flow.post_det ⟨hf, hr⟩ (AppF.refl _) rfl rfl
      apply FR.Flow.det_step
      · go_light
        intro w1 hC1
        simp only [FR.Flow.fill, FR.Flow.after, FR.Flow.at_, List.nil_append, List.cons_append, List.getD_cons_zero, List.getD_cons_succ, FR.det, forall_eq, List.setIfInBounds_toArray, List.set_cons_zero, List.set_cons_succ, List.drop, List.length]
        obtain ⟨hf, hr⟩ := hC1
        have k0 := (hf.cell (p := ⟨g, 0, none⟩) hlg hng).trans hc0; have k1 := (hf.cell (p := ⟨g, 1, none⟩) hlg hng).trans hc1; have k2 := (hf.cell (p := ⟨g, 2, none⟩) hlg hng).trans hc2; have s1 := hf.size
        go_wp2
        exact FR.Flow.post_det ⟨hf, hr⟩ (AppF.refl _) rfl rfl
      apply FR.Flow.det_step
      · go_light
        intro w1 hC1
        simp only [FR.Flow.fill, FR.Flow.after, FR.Flow.at_, List.nil_append, List.cons_append, List.getD_cons_zero, List.getD_cons_succ, FR.det, forall_eq, List.setIfInBounds_toArray, List.set_cons_zero, List.set_cons_succ, List.drop, List.length]
        obtain ⟨hf, hr⟩ := hC1
        have k0 := (hf.cell (p := ⟨g, 0, none⟩) hlg hng).trans hc0; have k1 := (hf.cell (p := ⟨g, 1, none⟩) hlg hng).trans hc1; have k2 := (hf.cell (p := ⟨g, 2, none⟩) hlg hng).trans hc2; have s1 := hf.size
        go_wp2
        exact FR.Flow.post_det ⟨hf, hr⟩ (AppF.refl _) rfl rfl
      apply FR.Flow.det_step
      · go_light
        intro w1 hC1
        simp only [FR.Flow.fill, FR.Flow.after, FR.Flow.at_, List.nil_append, List.cons_append, List.getD_cons_zero, List.getD_cons_succ, FR.det, forall_eq, List.setIfInBounds_toArray, List.set_cons_zero, List.set_cons_succ, List.drop, List.length]
        obtain ⟨hf, hr⟩ := hC1
        have k0 := (hf.cell (p := ⟨g, 0, none⟩) hlg hng).trans hc0; have k1 := (hf.cell (p := ⟨g, 1, none⟩) hlg hng).trans hc1; have k2 := (hf.cell (p := ⟨g, 2, none⟩) hlg hng).trans hc2; have s1 := hf.size
        go_wp2
        exact FR.Flow.post_det ⟨hf, hr⟩ (AppF.refl _) rfl rfl
      apply FR.Flow.det_step
      · go_light
        intro w1 hC1
        simp only [FR.Flow.fill, FR.Flow.after, FR.Flow.at_, List.nil_append, List.cons_append, List.getD_cons_zero, List.getD_cons_succ, FR.det, forall_eq, List.setIfInBounds_toArray, List.set_cons_zero, List.set_cons_succ, List.drop, List.length]
        obtain ⟨hf, hr⟩ := hC1
        have k0 := (hf.cell (p := ⟨g, 0, none⟩) hlg hng).trans hc0; have k1 := (hf.cell (p := ⟨g, 1, none⟩) hlg hng).trans hc1; have k2 := (hf.cell (p := ⟨g, 2, none⟩) hlg hng).trans hc2; have s1 := hf.size
        go_wp2
        exact FR.Flow.post_det ⟨hf, hr⟩ (AppF.refl _) rfl rfl
      apply FR.Flow.det_step
      · go_light
        intro w1 hC1
        simp only [FR.Flow.fill, FR.Flow.after, FR.Flow.at_, List.nil_append, List.cons_append, List.getD_cons_zero, List.getD_cons_succ, FR.det, forall_eq, List.setIfInBounds_toArray, List.set_cons_zero, List.set_cons_succ, List.drop, List.length]
        obtain ⟨hf, hr⟩ := hC1
        have k0 := (hf.cell (p := ⟨g, 0, none⟩) hlg hng).trans hc0; have k1 := (hf.cell (p := ⟨g, 1, none⟩) hlg hng).trans hc1; have k2 := (hf.cell (p := ⟨g, 2, none⟩) hlg hng).trans hc2; have s1 := hf.size
        go_wp2
        exact FR.Flow.post_det ⟨hf, hr⟩ (AppF.refl _) rfl rfl
      apply FR.Flow.det_step
      · go_light
        intro w1 hC1
        simp only [FR.Flow.fill, FR.Flow.after, FR.Flow.at_, List.nil_append, List.cons_append, List.getD_cons_zero, List.getD_cons_succ, FR.det, forall_eq, List.setIfInBounds_toArray, List.set_cons_zero, List.set_cons_succ, List.drop, List.length]
        obtain ⟨hf, hr⟩ := hC1
        have k0 := (hf.cell (p := ⟨g, 0, none⟩) hlg hng).trans hc0; have k1 := (hf.cell (p := ⟨g, 1, none⟩) hlg hng).trans hc1; have k2 := (hf.cell (p := ⟨g, 2, none⟩) hlg hng).trans hc2; have s1 := hf.size
        go_wp2
        exact FR.Flow.post_det ⟨hf, hr⟩ (AppF.refl _) rfl rfl
      apply FR.Flow.det_step
      · go_light
        intro w1 hC1
        simp only [FR.Flow.fill, FR.Flow.after, FR.Flow.at_, List.nil_append, List.cons_append, List.getD_cons_zero, List.getD_cons_succ, FR.det, forall_eq, List.setIfInBounds_toArray, List.set_cons_zero, List.set_cons_succ, List.drop, List.length]
        obtain ⟨hf, hr⟩ := hC1
        have k0 := (hf.cell (p := ⟨g, 0, none⟩) hlg hng).trans hc0; have k1 := (hf.cell (p := ⟨g, 1, none⟩) hlg hng).trans hc1; have k2 := (hf.cell (p := ⟨g, 2, none⟩) hlg hng).trans hc2; have s1 := hf.size
        go_wp2
        exact FR.Flow.post_det ⟨hf, hr⟩ (AppF.refl _) rfl rfl
      apply FR.Flow.det_step
      · go_light
        intro w1 hC1
        simp only [FR.Flow.fill, FR.Flow.after, FR.Flow.at_, List.nil_append, List.cons_append, List.getD_cons_zero, List.getD_cons_succ, FR.det, forall_eq, List.setIfInBounds_toArray, List.set_cons_zero, List.set_cons_succ, List.drop, List.length]
        obtain ⟨hf, hr⟩ := hC1
        have k0 := (hf.cell (p := ⟨g, 0, none⟩) hlg hng).trans hc0; have k1 := (hf.cell (p := ⟨g, 1, none⟩) hlg hng).trans hc1; have k2 := (hf.cell (p := ⟨g, 2, none⟩) hlg hng).trans hc2; have s1 := hf.size
        go_wp2
        exact FR.Flow.post_det ⟨hf, hr⟩ (AppF.refl _) rfl rfl
      refine FR.Flow.st_step (bufSt B 49 3 wS.heap.size A n c (n + 1) (ps.flatMap Pt.cells ++ x.cells) (fun g => .slice (some ⟨g, 0, none⟩) 1 1) x.cells) ?_ ?_
      · go_light
        intro w1 hC1
        simp only [FR.Flow.fill, FR.Flow.after, FR.Flow.at_, List.nil_append, List.cons_append, List.getD_cons_zero, List.getD_cons_succ, FR.det, forall_eq, List.setIfInBounds_toArray, List.set_cons_zero, List.set_cons_succ, List.drop, List.length]
        obtain ⟨hf, hr⟩ := hC1
        have k0 := (hf.cell (p := ⟨g, 0, none⟩) hlg hng).trans hc0; have k1 := (hf.cell (p := ⟨g, 1, none⟩) hlg hng).trans hc1; have k2 := (hf.cell (p := ⟨g, 2, none⟩) hlg hng).trans hc2; have s1 := hf.size
        go_wp2
        exact FR.Flow.post_st ⟨hf.alloc _, hr.alloc _⟩ (AppF.alloc _ _) rfl rfl (buf_alloc w1 49 x.cells _ (by rw [HXC.out]) (by rfl) (fun k hk => (hr.lt k hk).2) s1)
      refine FR.Flow.st_step (appfSt B 49 3 wS.heap.size A n c (n + 1) (ps.flatMap Pt.cells ++ x.cells)) ?_ ?_
      · go_light
        intro w1 hC1
        simp only [FR.Flow.fill, FR.Flow.after, FR.Flow.at_, List.nil_append, List.cons_append, List.getD_cons_zero, List.getD_cons_succ, FR.det, forall_eq, List.setIfInBounds_toArray, List.set_cons_zero, List.set_cons_succ, List.drop, List.length]
        rintro _ ⟨g6, rfl, hg6n, hg6s, hg6, hcs6⟩
        obtain ⟨hf, hr⟩ := hC1
        have k0 := (hf.cell (p := ⟨g, 0, none⟩) hlg hng).trans hc0; have k1 := (hf.cell (p := ⟨g, 1, none⟩) hlg hng).trans hc1; have k2 := (hf.cell (p := ⟨g, 2, none⟩) hlg hng).trans hc2; have s1 := hf.size
        refine wpList_append_row_at w1 rfl (.tmp 70) (.tmp 83) 31 rfl B 49 i0 (.agg #[.string ⟨#[]⟩, .bool false, .bool false]) 3 24 Try.underlying31 hi hz0 hz1 hz2 rfl (by decide) A n c (ps.flatMap Pt.cells) rfl hr _ (some ⟨g6, 0, none⟩) 1 1 x.cells rfl (buf_reads rfl hg6 hcs6) (pt_oneCell x) (by unfold maxLen; omega) (by omega) (Nat.le_trans hBS s1) (by decide) wS.heap.size s1 (fun k hk => (HRS.out.lt k hk).2) ?_
        intro A9 c9 w9 hA9 hR9 hr9 hg9
        exact FR.Flow.post_st ⟨hf.grown hg9 (fun k e _ => e), hr9⟩ hR9 rfl rfl ⟨A9, c9, rfl, hA9⟩
      apply FR.Flow.det_step
      · go_light
        intro w1 hC1
        simp only [FR.Flow.fill, FR.Flow.after, FR.Flow.at_, List.nil_append, List.cons_append, List.getD_cons_zero, List.getD_cons_succ, FR.det, forall_eq, List.setIfInBounds_toArray, List.set_cons_zero, List.set_cons_succ, List.drop, List.length]
        obtain ⟨hf, hr⟩ := hC1
        have k0 := (hf.cell (p := ⟨g, 0, none⟩) hlg hng).trans hc0; have k1 := (hf.cell (p := ⟨g, 1, none⟩) hlg hng).trans hc1; have k2 := (hf.cell (p := ⟨g, 2, none⟩) hlg hng).trans hc2; have s1 := hf.size
        go_wp2
        exact FR.Flow.post_det ⟨hf, hr⟩ (AppF.refl _) rfl rfl
      apply FR.Flow.det_step
      · go_light
        intro w1 hC1
        simp only [FR.Flow.fill, FR.Flow.after, FR.Flow.at_, List.nil_append, List.cons_append, List.getD_cons_zero, List.getD_cons_succ, FR.det, forall_eq, List.setIfInBounds_toArray, List.set_cons_zero, List.set_cons_succ, List.drop, List.length]
        obtain ⟨hf, hr⟩ := hC1
        have k0 := (hf.cell (p := ⟨g, 0, none⟩) hlg hng).trans hc0; have k1 := (hf.cell (p := ⟨g, 1, none⟩) hlg hng).trans hc1; have k2 := (hf.cell (p := ⟨g, 2, none⟩) hlg hng).trans hc2; have s1 := hf.size
        go_wp2
        exact FR.Flow.post_det ⟨hf, hr⟩ (AppF.refl _) rfl rfl
      intro w1 hC1
      simp only [FR.Flow.fill, FR.Flow.after, FR.Flow.at_, List.nil_append, List.cons_append, List.getD_cons_zero, List.getD_cons_succ, FR.det, forall_eq, List.setIfInBounds_toArray, List.set_cons_zero, List.set_cons_succ, List.drop, List.length]
      rintro _ ⟨g6, rfl, hg6n, hg6s, hg6, hcs6⟩ _ ⟨A9, c9, rfl, hA9⟩
      obtain ⟨hf, hr⟩ := hC1
      have k0 := (hf.cell (p := ⟨g, 0, none⟩) hlg hng).trans hc0; have k1 := (hf.cell (p := ⟨g, 1, none⟩) hlg hng).trans hc1; have k2 := (hf.cell (p := ⟨g, 2, none⟩) hlg hng).trans hc2; have s1 := hf.size
      have hr9 := hA9.row
      obtain ⟨hblk, hvm⟩ := HS.out.app hf hr9
      rw [← HPS.out] at hvm
      have k9 := hblk.cell
      have l9 := hblk.lt
      have f9 := hblk.free
      have HE := Lib.hid (hvm.setAt (varK s k)).post
      rw [hNk.out] at HE
      clear hA9 hcs6 hr hblk hvm hr9
      go_wp2
      refine bodyPost_ret (v := .tuple #[]) (by simp [results, Try.results21, go_sem]) rfl ?_
      rw [hNk.out]
      exact HE.out
    · have hb1 : (((s[k + 1]'hlt).toNat : Int) == 63) = false := by rw [hb0]; simp; omega
      have HU : Hid (N = vr 0 (nums (s.extract (k + 1) s.size))) := Lib.hid (by
        have := HN.out
        unfold varN at this
        rw [if_neg (fun h => hq (by have := h.2; rw [bt_cut _ _ _ (by omega)] at this; exact this))] at this
        exact this.symm)
      clear hb0 hq
      go_wp2_with fail
      go_loopw [4] (fun i wr => ∃ j : Nat, k + 1 + j ≤ s.size ∧ i = .int .i64 (k + 1 + j : Nat) ∧ Hid (NmUp (s.extract (k + 1) s.size) j) ∧ VMid w B g s (k + 1) bad A n c ps wr) (fun i _ => s.size - (intOf i).toNat)
      case atStart => exact ⟨0, by omega, rfl, Lib.hid (nmUp_zero _), HM.out⟩
      case round =>
        obtain ⟨j, hj, rfl, hu, hm⟩ := hrel
        obtain ⟨qc, qlt, qfz⟩ := hm.name
        clear kc klt kfz
        by_cases hjl : k + 1 + j < s.size
        · have hq1 : decide ((k : Int) + 1 + j < s.size) = true := by simp; omega
          have hq2 : (k : Int) + 1 + j + 1 ≤ s.size := by omega
          have HC := Lib.hid (fun w => name_any (s.extract (k + 1) (k + 1 + j + 1)) w (by simp; omega))
          rw [nm_cut s (k + 1) j (by omega), name_cut (by rw [cut_size]; omega) hu.out, ← nm_cut s (k + 1) j (by omega)] at HC
          unfold Same at HC
          cases hb : nmB j (bt (s.extract (k + 1) s.size) j) with
          | true =>
            have hu' := Lib.hid (nmUp_step (by rw [cut_size]; omega) hu.out hb)
            rw [hb] at HC
            clear hb
            go_wp2_with fail
            refine wp_region_quiet_lit (by kernel_rfl) (by kernel_rfl) ?_
            repeat (go_big_quiet_step (first | (go_at_call 7; exact Calls.quiet_of_same (HC.out _))))
            refine wpQuiet_nil ?_
            rintro w1 ⟨kn, rfl⟩
            go_wp2
            go_roundw
            case rel => exact ⟨j + 1, by omega, by go_num, hu', hm.drewN _⟩
            case measure => simp [intOf]; omega
          | false =>
            obtain rfl : j = N := by rw [HU.out]; exact (nmUp_stop (by rw [cut_size]; omega) hu.out hb).symm
            rw [hb] at HC
            clear hb
            go_wp2_with fail
            refine wp_region_quiet_lit (by kernel_rfl) (by kernel_rfl) ?_
            repeat (go_big_quiet_step (first | (go_at_call 7; exact Calls.quiet_of_same (HC.out _))))
            refine wpQuiet_nil ?_
            rintro w1 ⟨kn, rfl⟩
            have hm1 := hm.drewN kn
            by_cases hj0 : j = 0
            · subst hj0
              have hadd := Lib.hid (add_any B g s (k + 1) bad A n c ps ⟨#[36]⟩ q (wr.drewN kn) hm1.1 (HF.out.more (by omega)) (by decide))
              have hps := Lib.hid (hNp0.out (by first | rfl | trivial))
              have hmf := Lib.hid hm1.2
              go_wp2_with fail
              refine hadd.out.mono ?_
              rintro e w3 ⟨rfl, hr, hf⟩
              go_wp2
              refine bodyPost_ret (v := .tuple #[]) (by simp [results, Try.results21, go_sem]) rfl ?_
              rw [hps.out, hNk.out]
              exact ⟨rfl, hr, hmf.out.trans hf⟩
            · have hj1 : (((k + 1 + j : Nat) : Int) == (k : Int) + 1) = false := by simp; omega
              have hq3 : (k : Int) + 1 ≤ (k : Int) + 1 + j := by omega
              have hq4 : (k : Int) + 1 + j ≤ s.size := by omega
              go_wp2_with fail
              clear qc qlt qfz
              obtain ⟨x, hx⟩ : ∃ x : Pt, x = ⟨s.extract (k + 1) (k + 1 + j), true, q⟩ := ⟨_, rfl⟩
              have HXC : Hid (x.cells = [.string (s.extract (k + 1) (k + 1 + j)), .bool true, .bool q]) := Lib.hid (by rw [hx]; rfl)
              have HPS : Hid (varP s k ps q = ps ++ [x]) := Lib.hid (by rw [hx]; exact hNp1.out (by omega))
              clear hx
              obtain ⟨wS, hwS⟩ : ∃ wS, wS = (wr.drewN kn) := ⟨_, rfl⟩
              rw [← hwS]
              have HS := Lib.hid hm1
              rw [← hwS] at HS
              have HRS := Lib.hid HS.out.1.pr.1
              have hBS := HS.out.1.base
              obtain ⟨qc, hlg, qfz⟩ := HS.out.name
              have hc0 := qc 0
              have hc1 := qc 1
              have hc2 := qc 2
              have hng : ¬ (Value.slice A n c).ownBlock = some g := fun e => by
                have e1 : B ≤ g := (HRS.out.lt g e).1
                have := HS.out.1.lt
                omega
              dsimp at hc0 hc1 hc2
              clear hwS qc qfz
              refine FR.wp_region_walk (AppF B 49 3 wS.heap.size A n c (n + 1) (ps.flatMap Pt.cells ++ x.cells)) (fun w' => Fr (fun k => (Value.slice A n c).ownBlock = some k) wS w' ∧ Row w' B 49 3 (.slice A n c) n (ps.flatMap Pt.cells)) [[], [], [(67, 1)], [(68, 2)], [(69, 3)], [], [(71, 5)], [(72, 6)], [(73, 7)], [], [(75, 9)], [(76, 10)], [(77, 11)], [], [(74, 8), (78, 12), (79, 13)], [], [(80, 14), (81, 15)], [(82, 16)], [(70, 4), (83, 17)], [(66, 0)], [(85, 19)]]
                [(66, 0), (67, 1), (68, 2), (69, 3), (70, 4), (71, 5), (72, 6), (73, 7), (74, 8), (75, 9), (76, 10), (77, 11), (78, 12), (79, 13), (80, 14), (81, 15), (82, 16), (83, 17), (84, 18), (85, 19), (86, 20)] (by kernel_rfl) (by kernel_rfl) (by kernel_rfl) ⟨(Fr.refl _ _).drew, HRS.out.drew⟩ ?_
              apply FR.Flow.det_step
              · go_light
                intro w1 hC1
                simp only [FR.Flow.fill, FR.Flow.after, FR.Flow.at_, List.nil_append, List.cons_append, List.getD_cons_zero, List.getD_cons_succ, FR.det, forall_eq, List.setIfInBounds_toArray, List.set_cons_zero, List.set_cons_succ, List.drop, List.length]
                obtain ⟨hf, hr⟩ := hC1
                have k0 := (hf.cell (p := ⟨g, 0, none⟩) hlg hng).trans hc0; have k1 := (hf.cell (p := ⟨g, 1, none⟩) hlg hng).trans hc1; have k2 := (hf.cell (p := ⟨g, 2, none⟩) hlg hng).trans hc2; have s1 := hf.size
                go_wp2
                exact FR.Flow.post_det ⟨hf, hr⟩ (AppF.refl _) rfl rfl
              apply FR.Flow.det_step
              · go_light
                intro w1 hC1
                simp only [FR.Flow.fill, FR.Flow.after, FR.Flow.at_, List.nil_append, List.cons_append, List.getD_cons_zero, List.getD_cons_succ, FR.det, forall_eq, List.setIfInBounds_toArray, List.set_cons_zero, List.set_cons_succ, List.drop, List.length]
                obtain ⟨hf, hr⟩ := hC1
                have k0 := (hf.cell (p := ⟨g, 0, none⟩) hlg hng).trans hc0; have k1 := (hf.cell (p := ⟨g, 1, none⟩) hlg hng).trans hc1; have k2 := (hf.cell (p := ⟨g, 2, none⟩) hlg hng).trans hc2; have s1 := hf.size
                go_wp2
                exact FR.Flow.post_det ⟨hf, hr⟩ (AppF.refl _) rfl rfl
              apply FR.Flow.det_step
              · go_light
                intro w1 hC1
                simp only [FR.Flow.fill, FR.Flow.after, FR.Flow.at_, List.nil_append, List.cons_append, List.getD_cons_zero, List.getD_cons_succ, FR.det, forall_eq, List.setIfInBounds_toArray, List.set_cons_zero, List.set_cons_succ, List.drop, List.length]
                obtain ⟨hf, hr⟩ := hC1
                have k0 := (hf.cell (p := ⟨g, 0, none⟩) hlg hng).trans hc0; have k1 := (hf.cell (p := ⟨g, 1, none⟩) hlg hng).trans hc1; have k2 := (hf.cell (p := ⟨g, 2, none⟩) hlg hng).trans hc2; have s1 := hf.size
                go_wp2
                exact FR.Flow.post_det ⟨hf, hr⟩ (AppF.refl _) rfl rfl
              apply FR.Flow.det_step
              · go_light
                intro w1 hC1
                simp only [FR.Flow.fill, FR.Flow.after, FR.Flow.at_, List.nil_append, List.cons_append, List.getD_cons_zero, List.getD_cons_succ, FR.det, forall_eq, List.setIfInBounds_toArray, List.set_cons_zero, List.set_cons_succ, List.drop, List.length]
                obtain ⟨hf, hr⟩ := hC1
                have k0 := (hf.cell (p := ⟨g, 0, none⟩) hlg hng).trans hc0; have k1 := (hf.cell (p := ⟨g, 1, none⟩) hlg hng).trans hc1; have k2 := (hf.cell (p := ⟨g, 2, none⟩) hlg hng).trans hc2; have s1 := hf.size
                go_wp2
                exact FR.Flow.post_det ⟨hf, hr⟩ (AppF.refl _) rfl rfl
              apply FR.Flow.det_step
              · go_light
                intro w1 hC1
                simp only [FR.Flow.fill, FR.Flow.after, FR.Flow.at_, List.nil_append, List.cons_append, List.getD_cons_zero, List.getD_cons_succ, FR.det, forall_eq, List.setIfInBounds_toArray, List.set_cons_zero, List.set_cons_succ, List.drop, List.length]
                obtain ⟨hf, hr⟩ := hC1
                have k0 := (hf.cell (p := ⟨g, 0, none⟩) hlg hng).trans hc0; have k1 := (hf.cell (p := ⟨g, 1, none⟩) hlg hng).trans hc1; have k2 := (hf.cell (p := ⟨g, 2, none⟩) hlg hng).trans hc2; have s1 := hf.size
                go_wp2
                exact FR.Flow.post_det ⟨hf, hr⟩ (AppF.refl _) rfl rfl
              apply FR.Flow.det_step
              · go_light
                intro w1 hC1
                simp only [FR.Flow.fill, FR.Flow.after, FR.Flow.at_, List.nil_append, List.cons_append, List.getD_cons_zero, List.getD_cons_succ, FR.det, forall_eq, List.setIfInBounds_toArray, List.set_cons_zero, List.set_cons_succ, List.drop, List.length]
                obtain ⟨hf, hr⟩ := hC1
                have k0 := (hf.cell (p := ⟨g, 0, none⟩) hlg hng).trans hc0; have k1 := (hf.cell (p := ⟨g, 1, none⟩) hlg hng).trans hc1; have k2 := (hf.cell (p := ⟨g, 2, none⟩) hlg hng).trans hc2; have s1 := hf.size
                go_wp2
                exact FR.Flow.post_det ⟨hf, hr⟩ (AppF.refl _) rfl rfl
              apply FR.Flow.det_step
              · go_light
                intro w1 hC1
                simp only [FR.Flow.fill, FR.Flow.after, FR.Flow.at_, List.nil_append, List.cons_append, List.getD_cons_zero, List.getD_cons_succ, FR.det, forall_eq, List.setIfInBounds_toArray, List.set_cons_zero, List.set_cons_succ, List.drop, List.length]
                obtain ⟨hf, hr⟩ := hC1
                have k0 := (hf.cell (p := ⟨g, 0, none⟩) hlg hng).trans hc0; have k1 := (hf.cell (p := ⟨g, 1, none⟩) hlg hng).trans hc1; have k2 := (hf.cell (p := ⟨g, 2, none⟩) hlg hng).trans hc2; have s1 := hf.size
                go_wp2
                exact FR.Flow.post_det ⟨hf, hr⟩ (AppF.refl _) rfl rfl
              apply FR.Flow.det_step
              · go_light
                intro w1 hC1
                simp only [FR.Flow.fill, FR.Flow.after, FR.Flow.at_, List.nil_append, List.cons_append, List.getD_cons_zero, List.getD_cons_succ, FR.det, forall_eq, List.setIfInBounds_toArray, List.set_cons_zero, List.set_cons_succ, List.drop, List.length]
                obtain ⟨hf, hr⟩ := hC1
                have k0 := (hf.cell (p := ⟨g, 0, none⟩) hlg hng).trans hc0; have k1 := (hf.cell (p := ⟨g, 1, none⟩) hlg hng).trans hc1; have k2 := (hf.cell (p := ⟨g, 2, none⟩) hlg hng).trans hc2; have s1 := hf.size
                go_wp2
                exact FR.Flow.post_det ⟨hf, hr⟩ (AppF.refl _) rfl rfl
              apply FR.Flow.det_step
              · go_light
                intro w1 hC1
                simp only [FR.Flow.fill, FR.Flow.after, FR.Flow.at_, List.nil_append, List.cons_append, List.getD_cons_zero, List.getD_cons_succ, FR.det, forall_eq, List.setIfInBounds_toArray, List.set_cons_zero, List.set_cons_succ, List.drop, List.length]
                obtain ⟨hf, hr⟩ := hC1
                have k0 := (hf.cell (p := ⟨g, 0, none⟩) hlg hng).trans hc0; have k1 := (hf.cell (p := ⟨g, 1, none⟩) hlg hng).trans hc1; have k2 := (hf.cell (p := ⟨g, 2, none⟩) hlg hng).trans hc2; have s1 := hf.size
                go_wp2
                exact FR.Flow.post_det ⟨hf, hr⟩ (AppF.refl _) rfl rfl
              apply FR.Flow.det_step
              · go_light
                intro w1 hC1
                simp only [FR.Flow.fill, FR.Flow.after, FR.Flow.at_, List.nil_append, List.cons_append, List.getD_cons_zero, List.getD_cons_succ, FR.det, forall_eq, List.setIfInBounds_toArray, List.set_cons_zero, List.set_cons_succ, List.drop, List.length]
                obtain ⟨hf, hr⟩ := hC1
                have k0 := (hf.cell (p := ⟨g, 0, none⟩) hlg hng).trans hc0; have k1 := (hf.cell (p := ⟨g, 1, none⟩) hlg hng).trans hc1; have k2 := (hf.cell (p := ⟨g, 2, none⟩) hlg hng).trans hc2; have s1 := hf.size
                go_wp2
                exact FR.Flow.post_det ⟨hf, hr⟩ (AppF.refl _) rfl rfl
              apply FR.Flow.det_step
              · go_light
                intro w1 hC1
                simp only [FR.Flow.fill, FR.Flow.after, FR.Flow.at_, List.nil_append, List.cons_append, List.getD_cons_zero, List.getD_cons_succ, FR.det, forall_eq, List.setIfInBounds_toArray, List.set_cons_zero, List.set_cons_succ, List.drop, List.length]
                obtain ⟨hf, hr⟩ := hC1
                have k0 := (hf.cell (p := ⟨g, 0, none⟩) hlg hng).trans hc0; have k1 := (hf.cell (p := ⟨g, 1, none⟩) hlg hng).trans hc1; have k2 := (hf.cell (p := ⟨g, 2, none⟩) hlg hng).trans hc2; have s1 := hf.size
                go_wp2
                exact FR.Flow.post_det ⟨hf, hr⟩ (AppF.refl _) rfl rfl
              apply FR.Flow.det_step
              · go_light
                intro w1 hC1
                simp only [FR.Flow.fill, FR.Flow.after, FR.Flow.at_, List.nil_append, List.cons_append, List.getD_cons_zero, List.getD_cons_succ, FR.det, forall_eq, List.setIfInBounds_toArray, List.set_cons_zero, List.set_cons_succ, List.drop, List.length]
                obtain ⟨hf, hr⟩ := hC1
                have k0 := (hf.cell (p := ⟨g, 0, none⟩) hlg hng).trans hc0; have k1 := (hf.cell (p := ⟨g, 1, none⟩) hlg hng).trans hc1; have k2 := (hf.cell (p := ⟨g, 2, none⟩) hlg hng).trans hc2; have s1 := hf.size
                go_wp2
                exact FR.Flow.post_det ⟨hf, hr⟩ (AppF.refl _) rfl rfl
              apply FR.Flow.det_step
              · go_light
                intro w1 hC1
                simp only [FR.Flow.fill, FR.Flow.after, FR.Flow.at_, List.nil_append, List.cons_append, List.getD_cons_zero, List.getD_cons_succ, FR.det, forall_eq, List.setIfInBounds_toArray, List.set_cons_zero, List.set_cons_succ, List.drop, List.length]
                obtain ⟨hf, hr⟩ := hC1
                have k0 := (hf.cell (p := ⟨g, 0, none⟩) hlg hng).trans hc0; have k1 := (hf.cell (p := ⟨g, 1, none⟩) hlg hng).trans hc1; have k2 := (hf.cell (p := ⟨g, 2, none⟩) hlg hng).trans hc2; have s1 := hf.size
                go_wp2
                exact FR.Flow.post_det ⟨hf, hr⟩ (AppF.refl _) rfl rfl
              apply FR.Flow.det_step
              · go_light
                intro w1 hC1
                simp only [FR.Flow.fill, FR.Flow.after, FR.Flow.at_, List.nil_append, List.cons_append, List.getD_cons_zero, List.getD_cons_succ, FR.det, forall_eq, List.setIfInBounds_toArray, List.set_cons_zero, List.set_cons_succ, List.drop, List.length]
                obtain ⟨hf, hr⟩ := hC1
                have k0 := (hf.cell (p := ⟨g, 0, none⟩) hlg hng).trans hc0; have k1 := (hf.cell (p := ⟨g, 1, none⟩) hlg hng).trans hc1; have k2 := (hf.cell (p := ⟨g, 2, none⟩) hlg hng).trans hc2; have s1 := hf.size
                go_wp2
                exact FR.Flow.post_det ⟨hf, hr⟩ (AppF.refl _) rfl rfl
              apply FR.Flow.det_step
              · go_light
                intro w1 hC1
                simp only [FR.Flow.fill, FR.Flow.after, FR.Flow.at_, List.nil_append, List.cons_append, List.getD_cons_zero, List.getD_cons_succ, FR.det, forall_eq, List.setIfInBounds_toArray, List.set_cons_zero, List.set_cons_succ, List.drop, List.length]
                obtain ⟨hf, hr⟩ := hC1
                have k0 := (hf.cell (p := ⟨g, 0, none⟩) hlg hng).trans hc0; have k1 := (hf.cell (p := ⟨g, 1, none⟩) hlg hng).trans hc1; have k2 := (hf.cell (p := ⟨g, 2, none⟩) hlg hng).trans hc2; have s1 := hf.size
                go_wp2
                exact FR.Flow.post_det ⟨hf, hr⟩ (AppF.refl _) rfl rfl
              apply FR.Flow.det_step
              · go_light
                intro w1 hC1
                simp only [FR.Flow.fill, FR.Flow.after, FR.Flow.at_, List.nil_append, List.cons_append, List.getD_cons_zero, List.getD_cons_succ, FR.det, forall_eq, List.setIfInBounds_toArray, List.set_cons_zero, List.set_cons_succ, List.drop, List.length]
                obtain ⟨hf, hr⟩ := hC1
                have k0 := (hf.cell (p := ⟨g, 0, none⟩) hlg hng).trans hc0; have k1 := (hf.cell (p := ⟨g, 1, none⟩) hlg hng).trans hc1; have k2 := (hf.cell (p := ⟨g, 2, none⟩) hlg hng).trans hc2; have s1 := hf.size
                go_wp2
                exact FR.Flow.post_det ⟨hf, hr⟩ (AppF.refl _) rfl rfl
              apply FR.Flow.det_step
              · go_light
                intro w1 hC1
                simp only [FR.Flow.fill, FR.Flow.after, FR.Flow.at_, List.nil_append, List.cons_append, List.getD_cons_zero, List.getD_cons_succ, FR.det, forall_eq, List.setIfInBounds_toArray, List.set_cons_zero, List.set_cons_succ, List.drop, List.length]
                obtain ⟨hf, hr⟩ := hC1
                have k0 := (hf.cell (p := ⟨g, 0, none⟩) hlg hng).trans hc0; have k1 := (hf.cell (p := ⟨g, 1, none⟩) hlg hng).trans hc1; have k2 := (hf.cell (p := ⟨g, 2, none⟩) hlg hng).trans hc2; have s1 := hf.size
                go_wp2
                exact FR.Flow.post_det ⟨hf, hr⟩ (AppF.refl _) rfl rfl
              refine FR.Flow.st_step (bufSt B 49 3 wS.heap.size A n c (n + 1) (ps.flatMap Pt.cells ++ x.cells) (fun g => .slice (some ⟨g, 0, none⟩) 1 1) x.cells) ?_ ?_
              · go_light
                intro w1 hC1
                simp only [FR.Flow.fill, FR.Flow.after, FR.Flow.at_, List.nil_append, List.cons_append, List.getD_cons_zero, List.getD_cons_succ, FR.det, forall_eq, List.setIfInBounds_toArray, List.set_cons_zero, List.set_cons_succ, List.drop, List.length]
                obtain ⟨hf, hr⟩ := hC1
                have k0 := (hf.cell (p := ⟨g, 0, none⟩) hlg hng).trans hc0; have k1 := (hf.cell (p := ⟨g, 1, none⟩) hlg hng).trans hc1; have k2 := (hf.cell (p := ⟨g, 2, none⟩) hlg hng).trans hc2; have s1 := hf.size
                go_wp2
                exact FR.Flow.post_st ⟨hf.alloc _, hr.alloc _⟩ (AppF.alloc _ _) rfl rfl (buf_alloc w1 49 x.cells _ (by rw [HXC.out]) (by rfl) (fun k hk => (hr.lt k hk).2) s1)
              refine FR.Flow.st_step (appfSt B 49 3 wS.heap.size A n c (n + 1) (ps.flatMap Pt.cells ++ x.cells)) ?_ ?_
              · go_light
                intro w1 hC1
                simp only [FR.Flow.fill, FR.Flow.after, FR.Flow.at_, List.nil_append, List.cons_append, List.getD_cons_zero, List.getD_cons_succ, FR.det, forall_eq, List.setIfInBounds_toArray, List.set_cons_zero, List.set_cons_succ, List.drop, List.length]
                rintro _ ⟨g6, rfl, hg6n, hg6s, hg6, hcs6⟩
                obtain ⟨hf, hr⟩ := hC1
                have k0 := (hf.cell (p := ⟨g, 0, none⟩) hlg hng).trans hc0; have k1 := (hf.cell (p := ⟨g, 1, none⟩) hlg hng).trans hc1; have k2 := (hf.cell (p := ⟨g, 2, none⟩) hlg hng).trans hc2; have s1 := hf.size
                refine wpList_append_row_at w1 rfl (.tmp 70) (.tmp 83) 31 rfl B 49 i0 (.agg #[.string ⟨#[]⟩, .bool false, .bool false]) 3 24 Try.underlying31 hi hz0 hz1 hz2 rfl (by decide) A n c (ps.flatMap Pt.cells) rfl hr _ (some ⟨g6, 0, none⟩) 1 1 x.cells rfl (buf_reads rfl hg6 hcs6) (pt_oneCell x) (by unfold maxLen; omega) (by omega) (Nat.le_trans hBS s1) (by decide) wS.heap.size s1 (fun k hk => (HRS.out.lt k hk).2) ?_
                intro A9 c9 w9 hA9 hR9 hr9 hg9
                exact FR.Flow.post_st ⟨hf.grown hg9 (fun k e _ => e), hr9⟩ hR9 rfl rfl ⟨A9, c9, rfl, hA9⟩
              apply FR.Flow.det_step
              · go_light
                intro w1 hC1
                simp only [FR.Flow.fill, FR.Flow.after, FR.Flow.at_, List.nil_append, List.cons_append, List.getD_cons_zero, List.getD_cons_succ, FR.det, forall_eq, List.setIfInBounds_toArray, List.set_cons_zero, List.set_cons_succ, List.drop, List.length]
                obtain ⟨hf, hr⟩ := hC1
                have k0 := (hf.cell (p := ⟨g, 0, none⟩) hlg hng).trans hc0; have k1 := (hf.cell (p := ⟨g, 1, none⟩) hlg hng).trans hc1; have k2 := (hf.cell (p := ⟨g, 2, none⟩) hlg hng).trans hc2; have s1 := hf.size
                go_wp2
                exact FR.Flow.post_det ⟨hf, hr⟩ (AppF.refl _) rfl rfl
              apply FR.Flow.det_step
              · go_light
                intro w1 hC1
                simp only [FR.Flow.fill, FR.Flow.after, FR.Flow.at_, List.nil_append, List.cons_append, List.getD_cons_zero, List.getD_cons_succ, FR.det, forall_eq, List.setIfInBounds_toArray, List.set_cons_zero, List.set_cons_succ, List.drop, List.length]
                obtain ⟨hf, hr⟩ := hC1
                have k0 := (hf.cell (p := ⟨g, 0, none⟩) hlg hng).trans hc0; have k1 := (hf.cell (p := ⟨g, 1, none⟩) hlg hng).trans hc1; have k2 := (hf.cell (p := ⟨g, 2, none⟩) hlg hng).trans hc2; have s1 := hf.size
                go_wp2
                exact FR.Flow.post_det ⟨hf, hr⟩ (AppF.refl _) rfl rfl
              intro w1 hC1
              simp only [FR.Flow.fill, FR.Flow.after, FR.Flow.at_, List.nil_append, List.cons_append, List.getD_cons_zero, List.getD_cons_succ, FR.det, forall_eq, List.setIfInBounds_toArray, List.set_cons_zero, List.set_cons_succ, List.drop, List.length]
              rintro _ ⟨g6, rfl, hg6n, hg6s, hg6, hcs6⟩ _ ⟨A9, c9, rfl, hA9⟩
              obtain ⟨hf, hr⟩ := hC1
              have k0 := (hf.cell (p := ⟨g, 0, none⟩) hlg hng).trans hc0; have k1 := (hf.cell (p := ⟨g, 1, none⟩) hlg hng).trans hc1; have k2 := (hf.cell (p := ⟨g, 2, none⟩) hlg hng).trans hc2; have s1 := hf.size
              have hr9 := hA9.row
              obtain ⟨hblk, hvm⟩ := HS.out.app hf hr9
              rw [← HPS.out] at hvm
              have k9 := hblk.cell
              have l9 := hblk.lt
              have f9 := hblk.free
              have HE := Lib.hid (hvm.setAt (varK s k)).post
              rw [hNk.out] at HE
              clear hA9 hcs6 hr hblk hvm hr9
              go_wp2
              refine bodyPost_ret (v := .tuple #[]) (by simp [results, Try.results21, go_sem]) rfl ?_
              rw [hNk.out]
              exact HE.out
        · have hq1 : decide ((k : Int) + 1 + j < s.size) = false := by simp; omega
          obtain rfl : j = N := by
            rw [HU.out]
            have h1 : j = (s.extract (k + 1) s.size).size := by rw [cut_size]; omega
            have := hu.out
            rw [h1] at this ⊢
            exact (nmUp_end this).symm
          go_wp2_with fail
          refine wp_region_quiet_lit (by kernel_rfl) (by kernel_rfl) ?_
          repeat (go_big_quiet_step (fail))
          refine wpQuiet_nil ?_
          rintro w1 ⟨kn, rfl⟩
          have hm1 := hm.drewN kn
          by_cases hj0 : j = 0
          · exact absurd hlt (by omega)
          · have hj1 : (((k + 1 + j : Nat) : Int) == (k : Int) + 1) = false := by simp; omega
            have hq3 : (k : Int) + 1 ≤ (k : Int) + 1 + j := by omega
            have hq4 : (k : Int) + 1 + j ≤ s.size := by omega
            go_wp2_with fail
            clear qc qlt qfz
            obtain ⟨x, hx⟩ : ∃ x : Pt, x = ⟨s.extract (k + 1) (k + 1 + j), true, q⟩ := ⟨_, rfl⟩
            have HXC : Hid (x.cells = [.string (s.extract (k + 1) (k + 1 + j)), .bool true, .bool q]) := Lib.hid (by rw [hx]; rfl)
            have HPS : Hid (varP s k ps q = ps ++ [x]) := Lib.hid (by rw [hx]; exact hNp1.out (by omega))
            clear hx
            obtain ⟨wS, hwS⟩ : ∃ wS, wS = (wr.drewN kn) := ⟨_, rfl⟩
            rw [← hwS]
            have HS := Lib.hid hm1
            rw [← hwS] at HS
            have HRS := Lib.hid HS.out.1.pr.1
            have hBS := HS.out.1.base
            obtain ⟨qc, hlg, qfz⟩ := HS.out.name
            have hc0 := qc 0
            have hc1 := qc 1
            have hc2 := qc 2
            have hng : ¬ (Value.slice A n c).ownBlock = some g := fun e => by
              have e1 : B ≤ g := (HRS.out.lt g e).1
              have := HS.out.1.lt
              omega
            dsimp at hc0 hc1 hc2
            clear hwS qc qfz
            refine FR.wp_region_walk (AppF B 49 3 wS.heap.size A n c (n + 1) (ps.flatMap Pt.cells ++ x.cells)) (fun w' => Fr (fun k => (Value.slice A n c).ownBlock = some k) wS w' ∧ Row w' B 49 3 (.slice A n c) n (ps.flatMap Pt.cells)) [[], [], [(67, 1)], [(68, 2)], [(69, 3)], [], [(71, 5)], [(72, 6)], [(73, 7)], [], [(75, 9)], [(76, 10)], [(77, 11)], [], [(74, 8), (78, 12), (79, 13)], [], [(80, 14), (81, 15)], [(82, 16)], [(70, 4), (83, 17)], [(66, 0)], [(85, 19)]]
              [(66, 0), (67, 1), (68, 2), (69, 3), (70, 4), (71, 5), (72, 6), (73, 7), (74, 8), (75, 9), (76, 10), (77, 11), (78, 12), (79, 13), (80, 14), (81, 15), (82, 16), (83, 17), (84, 18), (85, 19), (86, 20)] (by kernel_rfl) (by kernel_rfl) (by kernel_rfl) ⟨(Fr.refl _ _).drew, HRS.out.drew⟩ ?_
            apply FR.Flow.det_step
            · go_light
              intro w1 hC1
              simp only [FR.Flow.fill, FR.Flow.after, FR.Flow.at_, List.nil_append, List.cons_append, List.getD_cons_zero, List.getD_cons_succ, FR.det, forall_eq, List.setIfInBounds_toArray, List.set_cons_zero, List.set_cons_succ, List.drop, List.length]
              obtain ⟨hf, hr⟩ := hC1
              have k0 := (hf.cell (p := ⟨g, 0, none⟩) hlg hng).trans hc0; have k1 := (hf.cell (p := ⟨g, 1, none⟩) hlg hng).trans hc1; have k2 := (hf.cell (p := ⟨g, 2, none⟩) hlg hng).trans hc2; have s1 := hf.size
              go_wp2
              exact FR.Flow.post_det ⟨hf, hr⟩ (AppF.refl _) rfl rfl
            apply FR.Flow.det_step
            · go_light
              intro w1 hC1
              simp only [FR.Flow.fill, FR.Flow.after, FR.Flow.at_, List.nil_append, List.cons_append, List.getD_cons_zero, List.getD_cons_succ, FR.det, forall_eq, List.setIfInBounds_toArray, List.set_cons_zero, List.set_cons_succ, List.drop, List.length]
              obtain ⟨hf, hr⟩ := hC1
              have k0 := (hf.cell (p := ⟨g, 0, none⟩) hlg hng).trans hc0; have k1 := (hf.cell (p := ⟨g, 1, none⟩) hlg hng).trans hc1; have k2 := (hf.cell (p := ⟨g, 2, none⟩) hlg hng).trans hc2; have s1 := hf.size
              go_wp2
              exact FR.Flow.post_det ⟨hf, hr⟩ (AppF.refl _) rfl rfl
            apply FR.Flow.det_step
            · go_light
              intro w1 hC1
              simp only [FR.Flow.fill, FR.Flow.after, FR.Flow.at_, List.nil_append, List.cons_append, List.getD_cons_zero, List.getD_cons_succ, FR.det, forall_eq, List.setIfInBounds_toArray, List.set_cons_zero, List.set_cons_succ, List.drop, List.length]
              obtain ⟨hf, hr⟩ := hC1
              have k0 := (hf.cell (p := ⟨g, 0, none⟩) hlg hng).trans hc0; have k1 := (hf.cell (p := ⟨g, 1, none⟩) hlg hng).trans hc1; have k2 := (hf.cell (p := ⟨g, 2, none⟩) hlg hng).trans hc2; have s1 := hf.size
              go_wp2
              exact FR.Flow.post_det ⟨hf, hr⟩ (AppF.refl _) rfl rfl
            apply FR.Flow.det_step
            · go_light
              intro w1 hC1
              simp only [FR.Flow.fill, FR.Flow.after, FR.Flow.at_, List.nil_append, List.cons_append, List.getD_cons_zero, List.getD_cons_succ, FR.det, forall_eq, List.setIfInBounds_toArray, List.set_cons_zero, List.set_cons_succ, List.drop, List.length]
              obtain ⟨hf, hr⟩ := hC1
              have k0 := (hf.cell (p := ⟨g, 0, none⟩) hlg hng).trans hc0; have k1 := (hf.cell (p := ⟨g, 1, none⟩) hlg hng).trans hc1; have k2 := (hf.cell (p := ⟨g, 2, none⟩) hlg hng).trans hc2; have s1 := hf.size
              go_wp2
              exact FR.Flow.post_det ⟨hf, hr⟩ (AppF.refl _) rfl rfl
            apply FR.Flow.det_step
            · go_light
              intro w1 hC1
              simp only [FR.Flow.fill, FR.Flow.after, FR.Flow.at_, List.nil_append, List.cons_append, List.getD_cons_zero, List.getD_cons_succ, FR.det, forall_eq, List.setIfInBounds_toArray, List.set_cons_zero, List.set_cons_succ, List.drop, List.length]
              obtain ⟨hf, hr⟩ := hC1
              have k0 := (hf.cell (p := ⟨g, 0, none⟩) hlg hng).trans hc0; have k1 := (hf.cell (p := ⟨g, 1, none⟩) hlg hng).trans hc1; have k2 := (hf.cell (p := ⟨g, 2, none⟩) hlg hng).trans hc2; have s1 := hf.size
              go_wp2
              exact FR.Flow.post_det ⟨hf, hr⟩ (AppF.refl _) rfl rfl
            apply FR.Flow.det_step
            · go_light
              intro w1 hC1
              simp only [FR.Flow.fill, FR.Flow.after, FR.Flow.at_, List.nil_append, List.cons_append, List.getD_cons_zero, List.getD_cons_succ, FR.det, forall_eq, List.setIfInBounds_toArray, List.set_cons_zero, List.set_cons_succ, List.drop, List.length]
              obtain ⟨hf, hr⟩ := hC1
              have k0 := (hf.cell (p := ⟨g, 0, none⟩) hlg hng).trans hc0; have k1 := (hf.cell (p := ⟨g, 1, none⟩) hlg hng).trans hc1; have k2 := (hf.cell (p := ⟨g, 2, none⟩) hlg hng).trans hc2; have s1 := hf.size
              go_wp2
              exact FR.Flow.post_det ⟨hf, hr⟩ (AppF.refl _) rfl rfl
            apply FR.Flow.det_step
            · go_light
              intro w1 hC1
              simp only [FR.Flow.fill, FR.Flow.after, FR.Flow.at_, List.nil_append, List.cons_append, List.getD_cons_zero, List.getD_cons_succ, FR.det, forall_eq, List.setIfInBounds_toArray, List.set_cons_zero, List.set_cons_succ, List.drop, List.length]
              obtain ⟨hf, hr⟩ := hC1
              have k0 := (hf.cell (p := ⟨g, 0, none⟩) hlg hng).trans hc0; have k1 := (hf.cell (p := ⟨g, 1, none⟩) hlg hng).trans hc1; have k2 := (hf.cell (p := ⟨g, 2, none⟩) hlg hng).trans hc2; have s1 := hf.size
              go_wp2
              exact FR.Flow.post_det ⟨hf, hr⟩ (AppF.refl _) rfl rfl
            apply FR.Flow.det_step
            · go_light
              intro w1 hC1
              simp only [FR.Flow.fill, FR.Flow.after, FR.Flow.at_, List.nil_append, List.cons_append, List.getD_cons_zero, List.getD_cons_succ, FR.det, forall_eq, List.setIfInBounds_toArray, List.set_cons_zero, List.set_cons_succ, List.drop, List.length]
              obtain ⟨hf, hr⟩ := hC1
              have k0 := (hf.cell (p := ⟨g, 0, none⟩) hlg hng).trans hc0; have k1 := (hf.cell (p := ⟨g, 1, none⟩) hlg hng).trans hc1; have k2 := (hf.cell (p := ⟨g, 2, none⟩) hlg hng).trans hc2; have s1 := hf.size
              go_wp2
              exact FR.Flow.post_det ⟨hf, hr⟩ (AppF.refl _) rfl rfl
            apply FR.Flow.det_step
            · go_light
              intro w1 hC1
              simp only [FR.Flow.fill, FR.Flow.after, FR.Flow.at_, List.nil_append, List.cons_append, List.getD_cons_zero, List.getD_cons_succ, FR.det, forall_eq, List.setIfInBounds_toArray, List.set_cons_zero, List.set_cons_succ, List.drop, List.length]
              obtain ⟨hf, hr⟩ := hC1
              have k0 := (hf.cell (p := ⟨g, 0, none⟩) hlg hng).trans hc0; have k1 := (hf.cell (p := ⟨g, 1, none⟩) hlg hng).trans hc1; have k2 := (hf.cell (p := ⟨g, 2, none⟩) hlg hng).trans hc2; have s1 := hf.size
              go_wp2
              exact FR.Flow.post_det ⟨hf, hr⟩ (AppF.refl _) rfl rfl
            apply FR.Flow.det_step
            · go_light
              intro w1 hC1
              simp only [FR.Flow.fill, FR.Flow.after, FR.Flow.at_, List.nil_append, List.cons_append, List.getD_cons_zero, List.getD_cons_succ, FR.det, forall_eq, List.setIfInBounds_toArray, List.set_cons_zero, List.set_cons_succ, List.drop, List.length]
              obtain ⟨hf, hr⟩ := hC1
              have k0 := (hf.cell (p := ⟨g, 0, none⟩) hlg hng).trans hc0; have k1 := (hf.cell (p := ⟨g, 1, none⟩) hlg hng).trans hc1; have k2 := (hf.cell (p := ⟨g, 2, none⟩) hlg hng).trans hc2; have s1 := hf.size
              go_wp2
              exact FR.Flow.post_det ⟨hf, hr⟩ (AppF.refl _) rfl rfl
            apply FR.Flow.det_step
            · go_light
              intro w1 hC1
              simp only [FR.Flow.fill, FR.Flow.after, FR.Flow.at_, List.nil_append, List.cons_append, List.getD_cons_zero, List.getD_cons_succ, FR.det, forall_eq, List.setIfInBounds_toArray, List.set_cons_zero, List.set_cons_succ, List.drop, List.length]
              obtain ⟨hf, hr⟩ := hC1
              have k0 := (hf.cell (p := ⟨g, 0, none⟩) hlg hng).trans hc0; have k1 := (hf.cell (p := ⟨g, 1, none⟩) hlg hng).trans hc1; have k2 := (hf.cell (p := ⟨g, 2, none⟩) hlg hng).trans hc2; have s1 := hf.size
              go_wp2
              exact FR.Flow.post_det ⟨hf, hr⟩ (AppF.refl _) rfl rfl
            apply FR.Flow.det_step
            · go_light
              intro w1 hC1
              simp only [FR.Flow.fill, FR.Flow.after, FR.Flow.at_, List.nil_append, List.cons_append, List.getD_cons_zero, List.getD_cons_succ, FR.det, forall_eq, List.setIfInBounds_toArray, List.set_cons_zero, List.set_cons_succ, List.drop, List.length]
              obtain ⟨hf, hr⟩ := hC1
              have k0 := (hf.cell (p := ⟨g, 0, none⟩) hlg hng).trans hc0; have k1 := (hf.cell (p := ⟨g, 1, none⟩) hlg hng).trans hc1; have k2 := (hf.cell (p := ⟨g, 2, none⟩) hlg hng).trans hc2; have s1 := hf.size
              go_wp2
              exact FR.Flow.post_det ⟨hf, hr⟩ (AppF.refl _) rfl rfl
            apply FR.Flow.det_step
            · go_light
              intro w1 hC1
              simp only [FR.Flow.fill, FR.Flow.after, FR.Flow.at_, List.nil_append, List.cons_append, List.getD_cons_zero, List.getD_cons_succ, FR.det, forall_eq, List.setIfInBounds_toArray, List.set_cons_zero, List.set_cons_succ, List.drop, List.length]
              obtain ⟨hf, hr⟩ := hC1
              have k0 := (hf.cell (p := ⟨g, 0, none⟩) hlg hng).trans hc0; have k1 := (hf.cell (p := ⟨g, 1, none⟩) hlg hng).trans hc1; have k2 := (hf.cell (p := ⟨g, 2, none⟩) hlg hng).trans hc2; have s1 := hf.size
              go_wp2
              exact FR.Flow.post_det ⟨hf, hr⟩ (AppF.refl _) rfl rfl
            apply FR.Flow.det_step
            · go_light
              intro w1 hC1
              simp only [FR.Flow.fill, FR.Flow.after, FR.Flow.at_, List.nil_append, List.cons_append, List.getD_cons_zero, List.getD_cons_succ, FR.det, forall_eq, List.setIfInBounds_toArray, List.set_cons_zero, List.set_cons_succ, List.drop, List.length]
              obtain ⟨hf, hr⟩ := hC1
              have k0 := (hf.cell (p := ⟨g, 0, none⟩) hlg hng).trans hc0; have k1 := (hf.cell (p := ⟨g, 1, none⟩) hlg hng).trans hc1; have k2 := (hf.cell (p := ⟨g, 2, none⟩) hlg hng).trans hc2; have s1 := hf.size
              go_wp2
              exact FR.Flow.post_det ⟨hf, hr⟩ (AppF.refl _) rfl rfl
            apply FR.Flow.det_step
            · go_light
              intro w1 hC1
              simp only [FR.Flow.fill, FR.Flow.after, FR.Flow.at_, List.nil_append, List.cons_append, List.getD_cons_zero, List.getD_cons_succ, FR.det, forall_eq, List.setIfInBounds_toArray, List.set_cons_zero, List.set_cons_succ, List.drop, List.length]
              obtain ⟨hf, hr⟩ := hC1
              have k0 := (hf.cell (p := ⟨g, 0, none⟩) hlg hng).trans hc0; have k1 := (hf.cell (p := ⟨g, 1, none⟩) hlg hng).trans hc1; have k2 := (hf.cell (p := ⟨g, 2, none⟩) hlg hng).trans hc2; have s1 := hf.size
              go_wp2
              exact FR.Flow.post_det ⟨hf, hr⟩ (AppF.refl _) rfl rfl
            apply FR.Flow.det_step
            · go_light
              intro w1 hC1
              simp only [FR.Flow.fill, FR.Flow.after, FR.Flow.at_, List.nil_append, List.cons_append, List.getD_cons_zero, List.getD_cons_succ, FR.det, forall_eq, List.setIfInBounds_toArray, List.set_cons_zero, List.set_cons_succ, List.drop, List.length]
              obtain ⟨hf, hr⟩ := hC1
              have k0 := (hf.cell (p := ⟨g, 0, none⟩) hlg hng).trans hc0; have k1 := (hf.cell (p := ⟨g, 1, none⟩) hlg hng).trans hc1; have k2 := (hf.cell (p := ⟨g, 2, none⟩) hlg hng).trans hc2; have s1 := hf.size
              go_wp2
              exact FR.Flow.post_det ⟨hf, hr⟩ (AppF.refl _) rfl rfl
            apply FR.Flow.det_step
            · go_light
              intro w1 hC1
              simp only [FR.Flow.fill, FR.Flow.after, FR.Flow.at_, List.nil_append, List.cons_append, List.getD_cons_zero, List.getD_cons_succ, FR.det, forall_eq, List.setIfInBounds_toArray, List.set_cons_zero, List.set_cons_succ, List.drop, List.length]
              obtain ⟨hf, hr⟩ := hC1
              have k0 := (hf.cell (p := ⟨g, 0, none⟩) hlg hng).trans hc0; have k1 := (hf.cell (p := ⟨g, 1, none⟩) hlg hng).trans hc1; have k2 := (hf.cell (p := ⟨g, 2, none⟩) hlg hng).trans hc2; have s1 := hf.size
              go_wp2
              exact FR.Flow.post_det ⟨hf, hr⟩ (AppF.refl _) rfl rfl
            refine FR.Flow.st_step (bufSt B 49 3 wS.heap.size A n c (n + 1) (ps.flatMap Pt.cells ++ x.cells) (fun g => .slice (some ⟨g, 0, none⟩) 1 1) x.cells) ?_ ?_
            · go_light
              intro w1 hC1
              simp only [FR.Flow.fill, FR.Flow.after, FR.Flow.at_, List.nil_append, List.cons_append, List.getD_cons_zero, List.getD_cons_succ, FR.det, forall_eq, List.setIfInBounds_toArray, List.set_cons_zero, List.set_cons_succ, List.drop, List.length]
              obtain ⟨hf, hr⟩ := hC1
              have k0 := (hf.cell (p := ⟨g, 0, none⟩) hlg hng).trans hc0; have k1 := (hf.cell (p := ⟨g, 1, none⟩) hlg hng).trans hc1; have k2 := (hf.cell (p := ⟨g, 2, none⟩) hlg hng).trans hc2; have s1 := hf.size
              go_wp2
              exact FR.Flow.post_st ⟨hf.alloc _, hr.alloc _⟩ (AppF.alloc _ _) rfl rfl (buf_alloc w1 49 x.cells _ (by rw [HXC.out]) (by rfl) (fun k hk => (hr.lt k hk).2) s1)
            refine FR.Flow.st_step (appfSt B 49 3 wS.heap.size A n c (n + 1) (ps.flatMap Pt.cells ++ x.cells)) ?_ ?_
            · go_light
              intro w1 hC1
              simp only [FR.Flow.fill, FR.Flow.after, FR.Flow.at_, List.nil_append, List.cons_append, List.getD_cons_zero, List.getD_cons_succ, FR.det, forall_eq, List.setIfInBounds_toArray, List.set_cons_zero, List.set_cons_succ, List.drop, List.length]
              rintro _ ⟨g6, rfl, hg6n, hg6s, hg6, hcs6⟩
              obtain ⟨hf, hr⟩ := hC1
              have k0 := (hf.cell (p := ⟨g, 0, none⟩) hlg hng).trans hc0; have k1 := (hf.cell (p := ⟨g, 1, none⟩) hlg hng).trans hc1; have k2 := (hf.cell (p := ⟨g, 2, none⟩) hlg hng).trans hc2; have s1 := hf.size
              refine wpList_append_row_at w1 rfl (.tmp 70) (.tmp 83) 31 rfl B 49 i0 (.agg #[.string ⟨#[]⟩, .bool false, .bool false]) 3 24 Try.underlying31 hi hz0 hz1 hz2 rfl (by decide) A n c (ps.flatMap Pt.cells) rfl hr _ (some ⟨g6, 0, none⟩) 1 1 x.cells rfl (buf_reads rfl hg6 hcs6) (pt_oneCell x) (by unfold maxLen; omega) (by omega) (Nat.le_trans hBS s1) (by decide) wS.heap.size s1 (fun k hk => (HRS.out.lt k hk).2) ?_
              intro A9 c9 w9 hA9 hR9 hr9 hg9
              exact FR.Flow.post_st ⟨hf.grown hg9 (fun k e _ => e), hr9⟩ hR9 rfl rfl ⟨A9, c9, rfl, hA9⟩
            apply FR.Flow.det_step
            · go_light
              intro w1 hC1
              simp only [FR.Flow.fill, FR.Flow.after, FR.Flow.at_, List.nil_append, List.cons_append, List.getD_cons_zero, List.getD_cons_succ, FR.det, forall_eq, List.setIfInBounds_toArray, List.set_cons_zero, List.set_cons_succ, List.drop, List.length]
              obtain ⟨hf, hr⟩ := hC1
              have k0 := (hf.cell (p := ⟨g, 0, none⟩) hlg hng).trans hc0; have k1 := (hf.cell (p := ⟨g, 1, none⟩) hlg hng).trans hc1; have k2 := (hf.cell (p := ⟨g, 2, none⟩) hlg hng).trans hc2; have s1 := hf.size
              go_wp2
              exact FR.Flow.post_det ⟨hf, hr⟩ (AppF.refl _) rfl rfl
            apply FR.Flow.det_step
            · go_light
              intro w1 hC1
              simp only [FR.Flow.fill, FR.Flow.after, FR.Flow.at_, List.nil_append, List.cons_append, List.getD_cons_zero, List.getD_cons_succ, FR.det, forall_eq, List.setIfInBounds_toArray, List.set_cons_zero, List.set_cons_succ, List.drop, List.length]
              obtain ⟨hf, hr⟩ := hC1
              have k0 := (hf.cell (p := ⟨g, 0, none⟩) hlg hng).trans hc0; have k1 := (hf.cell (p := ⟨g, 1, none⟩) hlg hng).trans hc1; have k2 := (hf.cell (p := ⟨g, 2, none⟩) hlg hng).trans hc2; have s1 := hf.size
              go_wp2
              exact FR.Flow.post_det ⟨hf, hr⟩ (AppF.refl _) rfl rfl
            intro w1 hC1
            simp only [FR.Flow.fill, FR.Flow.after, FR.Flow.at_, List.nil_append, List.cons_append, List.getD_cons_zero, List.getD_cons_succ, FR.det, forall_eq, List.setIfInBounds_toArray, List.set_cons_zero, List.set_cons_succ, List.drop, List.length]
            rintro _ ⟨g6, rfl, hg6n, hg6s, hg6, hcs6⟩ _ ⟨A9, c9, rfl, hA9⟩
            obtain ⟨hf, hr⟩ := hC1
            have k0 := (hf.cell (p := ⟨g, 0, none⟩) hlg hng).trans hc0; have k1 := (hf.cell (p := ⟨g, 1, none⟩) hlg hng).trans hc1; have k2 := (hf.cell (p := ⟨g, 2, none⟩) hlg hng).trans hc2; have s1 := hf.size
            have hr9 := hA9.row
            obtain ⟨hblk, hvm⟩ := HS.out.app hf hr9
            rw [← HPS.out] at hvm
            have k9 := hblk.cell
            have l9 := hblk.lt
            have f9 := hblk.free
            have HE := Lib.hid (hvm.setAt (varK s k)).post
            rw [hNk.out] at HE
            clear hA9 hcs6 hr hblk hvm hr9
            go_wp2
            refine bodyPost_ret (v := .tuple #[]) (by simp [results, Try.results21, go_sem]) rfl ?_
            rw [hNk.out]
            exact HE.out
  · obtain rfl : N = 0 := by omega
    have hqq : decide ((k : Int) + 1 < s.size) = false := by simp; omega
    go_wp2_with fail
    go_loopw [4] (fun i wr => i = .int .i64 (k + 1 : Nat) ∧ VMid w B g s (k + 1) bad A n c ps wr) (fun i _ => 0)
    case atStart => exact ⟨rfl, HM.out⟩
    case round =>
      obtain ⟨rfl, hm⟩ := hrel
      obtain ⟨qc, qlt, qfz⟩ := hm.name
      clear kc klt kfz
      go_wp2_with fail
      refine wp_region_quiet_lit (by kernel_rfl) (by kernel_rfl) ?_
      repeat (go_big_quiet_step (fail))
      refine wpQuiet_nil ?_
      rintro w1 ⟨kn, rfl⟩
      have hm1 := hm.drewN kn
      have hadd := Lib.hid (add_any B g s (k + 1) bad A n c ps ⟨#[36]⟩ q (wr.drewN kn) hm1.1 (HF.out.more (by omega)) (by decide))
      have hps := Lib.hid (hNp0.out (by first | rfl | trivial))
      have hmf := Lib.hid hm1.2
      go_wp2_with fail
      refine hadd.out.mono ?_
      rintro e w3 ⟨rfl, hr, hf⟩
      go_wp2
      refine bodyPost_ret (v := .tuple #[]) (by simp [results, Try.results21, go_sem]) rfl ?_
      rw [hps.out, hNk.out]
      exact ⟨rfl, hr, hmf.out.trans hf⟩
end Go.Proofs.Ytdhepkljidpigaa
