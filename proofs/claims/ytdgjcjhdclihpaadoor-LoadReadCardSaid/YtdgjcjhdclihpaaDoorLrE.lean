/- ringref4.LoadOf f16 (printed by mkLrE.py). -/
import Derived.Test.YtdgjcjhdclihpaaDoorLrD
import Derived.Test.YtdgjcjhdclihpaaDoorLdF
namespace Go.Proofs.YtdgjcjhdclihpaaDoor
open Go.RowKit
set_option maxHeartbeats 400000
set_option linter.unusedVariables false
set_option linter.unusedSimpArgs false
theorem rest_len {xs : List Int} {n a : Nat} (hl : xs.length = n) (hn : 12 ≤ n) (ha : 8 ≤ a) (ha2 : a ≤ n - 4) : ((restS xs).drop (a - 8)).length = n - 4 - a := by
  unfold restS
  simp
  omega
theorem rest_at {xs : List Int} {n a k : Nat} (hl : xs.length = n) (hn : 12 ≤ n) (ha : 8 ≤ a) (hk : a + k < n - 4) : ((restS xs).drop (a - 8)).getD k 0 = xs.getD (a + k) 0 := by
  unfold restS
  simp only [List.getD, List.getElem?_drop]
  rw [List.getElem?_take_of_lt (by omega), List.getElem?_drop, show 8 + (a - 8 + k) = a + k by omega]
theorem rest_data {xs : List Int} {n a m : Nat} (hl : xs.length = n) (hn : 12 ≤ n) (ha : 8 ≤ a) (hm : a + 3 + m ≤ n - 4) : (((restS xs).drop (a - 8)).drop 3).take m = (xs.drop (a + 3)).take m := by
  unfold restS
  rw [List.drop_drop, List.drop_take, List.take_take, List.drop_drop, show 8 + (a - 8 + 3) = a + 3 by omega, show min m (xs.length - 12 - (a - 8 + 3)) = m by omega]
theorem rest_next {xs : List Int} {a m : Nat} (ha : 8 ≤ a) : ((restS xs).drop (a - 8)).drop (3 + m) = (restS xs).drop (a + (3 + m) - 8) := by
  rw [List.drop_drop]
  congr 1
  omega
theorem entry_at {xs : List Int} : entryS xs = xs.getD 4 0 + 256 * xs.getD 5 0 + 65536 * xs.getD 6 0 + 16777216 * xs.getD 7 0 := by
  unfold entryS wordS
  simp only [List.getD, List.getElem?_drop]
/-- A new block, behind a pointer. -/
def blkSt (base : Nat) (cs : Array Value) (t : TypeId) : St := ⟨fun v w => ∃ g, v = .pointer (some ⟨g, 0, none⟩) ∧ base ≤ g ∧ Blk w g cs t,
  fun _ _ _ h hg => by
    obtain ⟨g, h1, h2, h3⟩ := h
    exact ⟨g, h1, h2, h3.fr (Fr.of_grow hg) (fun h => h)⟩⟩
/-- The page that is appended, and the values on the way to it. -/
def ZQ (hs : List Pg) (p r : Int) (T : List Int) (m B : Nat) (A : Option Addr) (n c : Nat) (ys : List Value) (w : World) : Prop :=
  ∃ x : Pg, ys = hs.flatMap Pg.cells ++ x.cells ∧ x.p = p ∧ x.r = r ∧ x.xs = T ∧ x.own w B ∧ (∀ k, (Value.slice x.A x.n x.c).ownBlock = some k → (Value.slice A n c).ownBlock ≠ some k) ∧ x.n = m ∧ x.n ≤ x.c ∧ x.c ≤ 9223372036854775807
theorem ZQ.fr {hs : List Pg} {p r : Int} {T : List Int} {m B n c : Nat} {A : Option Addr} {ys : List Value} {w w' : World} (h : ZQ hs p r T m B A n c ys w) (hf : Fr (fun k => (Value.slice A n c).ownBlock = some k) w w') : ZQ hs p r T m B A n c ys w' := by
  obtain ⟨x, h1, h2, h3, h4, h5, h6, h7⟩ := h
  exact ⟨x, h1, h2, h3, h4, h5.fr hf h6, h6, h7⟩
def PN (T : List Int) (L B : Nat) (A : Option Addr) (n c : Nat) (v : Value) (w : World) : Prop := ∃ A8 c8, v = .slice A8 L c8 ∧ OwnBs w B A8 L c8 T ∧ L ≤ c8 ∧ c8 ≤ 9223372036854775807 ∧ ∀ k, (Value.slice A8 L c8).ownBlock = some k → (Value.slice A n c).ownBlock ≠ some k
theorem PN.fr {T : List Int} {L B n c : Nat} {A : Option Addr} (v : Value) (w w' : World) (h : PN T L B A n c v w) (hf : Fr (fun k => (Value.slice A n c).ownBlock = some k) w w') : PN T L B A n c v w' := by
  obtain ⟨A8, c8, h1, h2, h4, h5, h3⟩ := h
  exact ⟨A8, c8, h1, h2.fr hf h3, h4, h5, h3⟩
def PQ (p r : Int) (T : List Int) (L B : Nat) (A : Option Addr) (n c : Nat) (v : Value) (w : World) : Prop := ∃ A8 c8, v = .agg #[.int .i64 p, .int .i64 r, .slice A8 L c8] ∧ OwnBs w B A8 L c8 T ∧ L ≤ c8 ∧ c8 ≤ 9223372036854775807 ∧ ∀ k, (Value.slice A8 L c8).ownBlock = some k → (Value.slice A n c).ownBlock ≠ some k
theorem PQ.fr {p r : Int} {T : List Int} {L B n c : Nat} {A : Option Addr} (v : Value) (w w' : World) (h : PQ p r T L B A n c v w) (hf : Fr (fun k => (Value.slice A n c).ownBlock = some k) w w') : PQ p r T L B A n c v w' := by
  obtain ⟨A8, c8, h1, h2, h4, h5, h3⟩ := h
  exact ⟨A8, c8, h1, h2.fr hf h3, h4, h5, h3⟩
def PR (p r : Int) (T : List Int) (L B : Nat) (A : Option Addr) (n c : Nat) (v : Value) (w : World) : Prop := ∃ g6 A8 c8, v = .slice (some ⟨g6, 0, none⟩) 1 1 ∧ OwnBs w B A8 L c8 T ∧ L ≤ c8 ∧ c8 ≤ 9223372036854775807 ∧ (∀ k, (Value.slice A8 L c8).ownBlock = some k → (Value.slice A n c).ownBlock ≠ some k) ∧
  Reads w (g6 + 1) 3 (some ⟨g6, 0, none⟩) 1 (Pg.cells ⟨p, r, A8, L, c8, T⟩) ∧ g6 < w.heap.size ∧ (Value.slice A n c).ownBlock ≠ some g6
theorem PR.fr {p r : Int} {T : List Int} {L B n c : Nat} {A : Option Addr} (v : Value) (w w' : World) (h : PR p r T L B A n c v w) (hf : Fr (fun k => (Value.slice A n c).ownBlock = some k) w w') : PR p r T L B A n c v w' := by
  obtain ⟨g6, A8, c8, h1, h2, h7, h8, h3, h4, h5, h6⟩ := h
  refine ⟨g6, A8, c8, h1, h2.fr hf h3, h7, h8, h3, ⟨h4.1, fun h0 => ?_⟩, Nat.lt_of_lt_of_le h5 hf.size, h6⟩
  obtain ⟨b, o, e, hb, hc⟩ := h4.2 h0
  injection e with e
  injection e with e1 e2
  subst e1; subst e2
  exact ⟨g6, 0, rfl, hb, fun j u hu => (hf.cell (p := ⟨g6, 0 + j, none⟩) h5 h6).trans (hc j u hu)⟩
set_option maxHeartbeats 8000000 in
set_option maxRecDepth 100000 in
theorem loadOf_any (A : Option Addr) (n c : Nat) (xs : List Int) (w : World) (h : RB w w.heap.size A n xs) (hnc : n ≤ c) (hcm : c ≤ 9223372036854775807) :
    Calls Tryd.prog 16 #[.slice A n c] w (ImgPost xs w) := by
  obtain ⟨i0, hi, hz0, hz1, hz2⟩ := info_parts infoB
  obtain ⟨i1, hi1, hz3, hz4, hz5⟩ := info_parts infoG
  have hl := h.len
  obtain ⟨wS, hwS⟩ : ∃ wS, wS = w.alloc (.cells #[.int .u32 0, .slice none 0 0] 25) := ⟨_, rfl⟩
  have hb1 : Below w.heap.size w wS := by rw [hwS]; exact (Below.refl _ _).alloc (Nat.le_refl _) _
  have hx : Blk wS w.heap.size #[.int .u32 0, .slice none 0 0] 25 := by rw [hwS]; exact Blk.new _ _ _
  have hsw := hx.lt
  obtain ⟨gr, hgr⟩ : ∃ g, w.heap.size = g := ⟨_, rfl⟩
  have HGR := Lib.hid hgr
  rw [hgr] at h hb1 hx hsw
  have HB1 := Lib.hid hb1
  have HX := Lib.hid hx
  have HW := Lib.hid hwS
  have HF : Hid (∀ W, Below gr w W → RB W gr A n xs) := Lib.hid (fun W hb => h.below' hb (Nat.le_refl _))
  have HBT := Lib.hid h.2
  have hb0 := h
  have HBAD : Hid (¬ Good xs → ∀ W, Blk W gr #[.int .u32 0, .slice none 0 0] 25 → Below gr w W → ∀ v0 v1 : Value, v0 = .int .u32 0 → v1 = .slice none 0 0 → ImgPost xs w (.returned (.tuple #[.agg #[v0, v1], .int .i64 3])) ((W.setCell ⟨gr, 0, none⟩ v0).setCell ⟨gr, 1, none⟩ v1)) := Lib.hid (fun hg W _ hb v0 v1 e0 e1 => by
    subst e0; subst e1
    exact ImgPost.bad hg (by rw [HGR.out]; exact (hb.setCell (p := ⟨gr, 0, none⟩) (Nat.le_refl _) _).setCell (p := ⟨gr, 1, none⟩) (Nat.le_refl _) _))
  by_cases h12 : n < 12 ∨ 512 < n
  · have hng := Lib.hid (show ¬ Good xs from fun hh => by have := hh.1; have := hh.2.1; omega)
    have hcl := hx.cell
    have hll := hx.lt
    have HFIN : Hid (ImgPost xs w (.returned (.tuple #[.agg #[.int .u32 0, .slice none 0 0], .int .i64 3])) wS) := Lib.hid (ImgPost.bad hng.out (by rw [HGR.out]; exact hb1))
    rw [hwS] at HFIN hcl hll
    clear h hb1 hb0 hwS hx HX HB1
    by_cases h1 : n < 12
    · have h1i : (n : Int) < 12 := by omega
      go_enter Tryd.func16, Tryd.ntmps16
      go_wp2
      refine bodyPost_ret (v := .tuple #[.agg #[.int .u32 0, .slice none 0 0], .int .i64 3]) (by simp [results, Tryd.results16, go_sem, hcl, hll]) rfl ?_
      exact HFIN.out
    · have h1i : ¬ (n : Int) < 12 := by omega
      have h2i : (512 : Int) < n := by omega
      go_enter Tryd.func16, Tryd.ntmps16
      go_wp2
      refine bodyPost_ret (v := .tuple #[.agg #[.int .u32 0, .slice none 0 0], .int .i64 3]) (by simp [results, Tryd.results16, go_sem, hcl, hll]) rfl ?_
      exact HFIN.out
  have hn12 : 12 ≤ n := by omega
  have hn512 : n ≤ 512 := by omega
  have h1i : ¬ (n : Int) < 12 := by omega
  have h2i : ¬ (512 : Int) < n := by omega
  have h1d : decide (n < 12) = false := by simp; omega
  obtain ⟨b, o, rfl, hb, hc4, p4, q4⟩ := (HF.out _ HB1.out).at_ (show 4 < n by omega)
  obtain ⟨b', o', e1, _, hc5, p5, q5⟩ := (HF.out _ HB1.out).at_ (show 5 < n by omega)
  injection e1 with e1
  injection e1 with e1 e1'
  subst e1; subst e1'
  obtain ⟨b', o', e1, _, hc6, p6, q6⟩ := (HF.out _ HB1.out).at_ (show 6 < n by omega)
  injection e1 with e1
  injection e1 with e1 e1'
  subst e1; subst e1'
  obtain ⟨b', o', e1, _, hc7, p7, q7⟩ := (HF.out _ HB1.out).at_ (show 7 < n by omega)
  injection e1 with e1
  injection e1 with e1 e1'
  subst e1; subst e1'
  have HEN := Lib.hid (entry_at (xs := xs))
  generalize xs.getD 4 0 = x4 at *
  generalize xs.getD 5 0 = x5 at *
  generalize xs.getD 6 0 = x6 at *
  generalize xs.getD 7 0 = x7 at *
  have u4 : IntKind.u32.wrap x4 = x4 := by rw [IntKind.wrap_u32]; omega
  have u5 : IntKind.u32.wrap x5 = x5 := by rw [IntKind.wrap_u32]; omega
  have u6 : IntKind.u32.wrap x6 = x6 := by rw [IntKind.wrap_u32]; omega
  have u7 : IntKind.u32.wrap x7 = x7 := by rw [IntKind.wrap_u32]; omega
  have v5 : IntKind.u32.wrap (x4 + x5 * 256) = x4 + x5 * 256 := by rw [IntKind.wrap_u32]; omega
  have v6 : IntKind.u32.wrap (x4 + x5 * 256 + x6 * 65536) = x4 + x5 * 256 + x6 * 65536 := by rw [IntKind.wrap_u32]; omega
  have v7 : IntKind.u32.wrap (x4 + x5 * 256 + x6 * 65536 + x7 * 16777216) = x4 + x5 * 256 + x6 * 65536 + x7 * 16777216 := by rw [IntKind.wrap_u32]; omega
  obtain ⟨E, hE⟩ : ∃ E, x4 + x5 * 256 + x6 * 65536 + x7 * 16777216 = E := ⟨_, rfl⟩
  have HEE : Hid (E = entryS xs) := Lib.hid (by rw [HEN.out, ← hE]; omega)
  have hen : 0 ≤ E ∧ E < 4294967296 := by omega
  have hl4 : (4 : Int) < n := by omega
  have hl5 : (5 : Int) < n := by omega
  have hl6 : (6 : Int) < n := by omega
  have hl7 : (7 : Int) < n := by omega
  have hbS : b < wS.heap.size := by omega
  rw [hE] at v7
  have hEE := Lib.hid hE
  clear h hb1 hx hwS hb0 h12
  go_enter Tryd.func16, Tryd.ntmps16
  go_wp2_with fail
  rw [← HW.out]
  refine wp_region_walk (fun w' => Below wS.heap.size wS w') [[], [(19, 0)], [(20, 1)], [(21, 2)], [], [(23, 4)], [(24, 5)], [(25, 6)], [(26, 7)], [(22, 3), (27, 8)], [], [(29, 10)], [(30, 11)], [(31, 12)], [(32, 13)], [(28, 9), (33, 14)], [], [(35, 16)], [(36, 17)], [(37, 18)], [(38, 19)], [(34, 15), (39, 20)], [(40, 21)], []]
    [(19, 0), (20, 1), (21, 2), (22, 3), (23, 4), (24, 5), (25, 6), (26, 7), (27, 8), (28, 9), (29, 10), (30, 11), (31, 12), (32, 13), (33, 14), (34, 15), (35, 16), (36, 17), (37, 18), (38, 19), (39, 20), (40, 21), (41, 22), (4, 23)] (by kernel_rfl) (by kernel_rfl) (by kernel_rfl) (Below.refl _ _).drew ?_
  apply Flow.det_step
  · go_light
    intro w1 hC1
    simp only [Flow.fill, Flow.after, Flow.at_, List.nil_append, List.cons_append, List.getD_cons_zero, List.getD_cons_succ, det, forall_eq, List.setIfInBounds_toArray, List.set_cons_zero, List.set_cons_succ, List.drop, List.length]
    have hb3 := hC1
    have s3 := hb3.size; have k4 := (hb3.cell (p := ⟨b, o + 4, none⟩) hbS).trans hc4; have k5 := (hb3.cell (p := ⟨b, o + 5, none⟩) hbS).trans hc5; have k6 := (hb3.cell (p := ⟨b, o + 6, none⟩) hbS).trans hc6; have k7 := (hb3.cell (p := ⟨b, o + 7, none⟩) hbS).trans hc7
    go_wp2
    exact Flow.post_det hb3 (Grow.refl _) rfl rfl
  apply Flow.det_step
  · go_light
    intro w1 hC1
    simp only [Flow.fill, Flow.after, Flow.at_, List.nil_append, List.cons_append, List.getD_cons_zero, List.getD_cons_succ, det, forall_eq, List.setIfInBounds_toArray, List.set_cons_zero, List.set_cons_succ, List.drop, List.length]
    have hb3 := hC1
    have s3 := hb3.size; have k4 := (hb3.cell (p := ⟨b, o + 4, none⟩) hbS).trans hc4; have k5 := (hb3.cell (p := ⟨b, o + 5, none⟩) hbS).trans hc5; have k6 := (hb3.cell (p := ⟨b, o + 6, none⟩) hbS).trans hc6; have k7 := (hb3.cell (p := ⟨b, o + 7, none⟩) hbS).trans hc7
    go_wp2
    exact Flow.post_det hb3 (Grow.refl _) rfl rfl
  apply Flow.det_step
  · go_light
    intro w1 hC1
    simp only [Flow.fill, Flow.after, Flow.at_, List.nil_append, List.cons_append, List.getD_cons_zero, List.getD_cons_succ, det, forall_eq, List.setIfInBounds_toArray, List.set_cons_zero, List.set_cons_succ, List.drop, List.length]
    have hb3 := hC1
    have s3 := hb3.size; have k4 := (hb3.cell (p := ⟨b, o + 4, none⟩) hbS).trans hc4; have k5 := (hb3.cell (p := ⟨b, o + 5, none⟩) hbS).trans hc5; have k6 := (hb3.cell (p := ⟨b, o + 6, none⟩) hbS).trans hc6; have k7 := (hb3.cell (p := ⟨b, o + 7, none⟩) hbS).trans hc7
    go_wp2
    exact Flow.post_det hb3 (Grow.refl _) rfl rfl
  apply Flow.det_step
  · go_light
    intro w1 hC1
    simp only [Flow.fill, Flow.after, Flow.at_, List.nil_append, List.cons_append, List.getD_cons_zero, List.getD_cons_succ, det, forall_eq, List.setIfInBounds_toArray, List.set_cons_zero, List.set_cons_succ, List.drop, List.length]
    have hb3 := hC1
    have s3 := hb3.size; have k4 := (hb3.cell (p := ⟨b, o + 4, none⟩) hbS).trans hc4; have k5 := (hb3.cell (p := ⟨b, o + 5, none⟩) hbS).trans hc5; have k6 := (hb3.cell (p := ⟨b, o + 6, none⟩) hbS).trans hc6; have k7 := (hb3.cell (p := ⟨b, o + 7, none⟩) hbS).trans hc7
    go_wp2
    exact Flow.post_det hb3 (Grow.refl _) rfl rfl
  apply Flow.det_step
  · go_light
    intro w1 hC1
    simp only [Flow.fill, Flow.after, Flow.at_, List.nil_append, List.cons_append, List.getD_cons_zero, List.getD_cons_succ, det, forall_eq, List.setIfInBounds_toArray, List.set_cons_zero, List.set_cons_succ, List.drop, List.length]
    have hb3 := hC1
    have s3 := hb3.size; have k4 := (hb3.cell (p := ⟨b, o + 4, none⟩) hbS).trans hc4; have k5 := (hb3.cell (p := ⟨b, o + 5, none⟩) hbS).trans hc5; have k6 := (hb3.cell (p := ⟨b, o + 6, none⟩) hbS).trans hc6; have k7 := (hb3.cell (p := ⟨b, o + 7, none⟩) hbS).trans hc7
    go_wp2
    exact Flow.post_det hb3 (Grow.refl _) rfl rfl
  apply Flow.det_step
  · go_light
    intro w1 hC1
    simp only [Flow.fill, Flow.after, Flow.at_, List.nil_append, List.cons_append, List.getD_cons_zero, List.getD_cons_succ, det, forall_eq, List.setIfInBounds_toArray, List.set_cons_zero, List.set_cons_succ, List.drop, List.length]
    have hb3 := hC1
    have s3 := hb3.size; have k4 := (hb3.cell (p := ⟨b, o + 4, none⟩) hbS).trans hc4; have k5 := (hb3.cell (p := ⟨b, o + 5, none⟩) hbS).trans hc5; have k6 := (hb3.cell (p := ⟨b, o + 6, none⟩) hbS).trans hc6; have k7 := (hb3.cell (p := ⟨b, o + 7, none⟩) hbS).trans hc7
    go_wp2
    exact Flow.post_det hb3 (Grow.refl _) rfl rfl
  apply Flow.det_step
  · go_light
    intro w1 hC1
    simp only [Flow.fill, Flow.after, Flow.at_, List.nil_append, List.cons_append, List.getD_cons_zero, List.getD_cons_succ, det, forall_eq, List.setIfInBounds_toArray, List.set_cons_zero, List.set_cons_succ, List.drop, List.length]
    have hb3 := hC1
    have s3 := hb3.size; have k4 := (hb3.cell (p := ⟨b, o + 4, none⟩) hbS).trans hc4; have k5 := (hb3.cell (p := ⟨b, o + 5, none⟩) hbS).trans hc5; have k6 := (hb3.cell (p := ⟨b, o + 6, none⟩) hbS).trans hc6; have k7 := (hb3.cell (p := ⟨b, o + 7, none⟩) hbS).trans hc7
    go_wp2
    exact Flow.post_det hb3 (Grow.refl _) rfl rfl
  apply Flow.det_step
  · go_light
    intro w1 hC1
    simp only [Flow.fill, Flow.after, Flow.at_, List.nil_append, List.cons_append, List.getD_cons_zero, List.getD_cons_succ, det, forall_eq, List.setIfInBounds_toArray, List.set_cons_zero, List.set_cons_succ, List.drop, List.length]
    have hb3 := hC1
    have s3 := hb3.size; have k4 := (hb3.cell (p := ⟨b, o + 4, none⟩) hbS).trans hc4; have k5 := (hb3.cell (p := ⟨b, o + 5, none⟩) hbS).trans hc5; have k6 := (hb3.cell (p := ⟨b, o + 6, none⟩) hbS).trans hc6; have k7 := (hb3.cell (p := ⟨b, o + 7, none⟩) hbS).trans hc7
    go_wp2
    exact Flow.post_det hb3 (Grow.refl _) rfl rfl
  apply Flow.det_step
  · go_light
    intro w1 hC1
    simp only [Flow.fill, Flow.after, Flow.at_, List.nil_append, List.cons_append, List.getD_cons_zero, List.getD_cons_succ, det, forall_eq, List.setIfInBounds_toArray, List.set_cons_zero, List.set_cons_succ, List.drop, List.length]
    have hb3 := hC1
    have s3 := hb3.size; have k4 := (hb3.cell (p := ⟨b, o + 4, none⟩) hbS).trans hc4; have k5 := (hb3.cell (p := ⟨b, o + 5, none⟩) hbS).trans hc5; have k6 := (hb3.cell (p := ⟨b, o + 6, none⟩) hbS).trans hc6; have k7 := (hb3.cell (p := ⟨b, o + 7, none⟩) hbS).trans hc7
    go_wp2
    exact Flow.post_det hb3 (Grow.refl _) rfl rfl
  apply Flow.det_step
  · go_light
    intro w1 hC1
    simp only [Flow.fill, Flow.after, Flow.at_, List.nil_append, List.cons_append, List.getD_cons_zero, List.getD_cons_succ, det, forall_eq, List.setIfInBounds_toArray, List.set_cons_zero, List.set_cons_succ, List.drop, List.length]
    have hb3 := hC1
    have s3 := hb3.size; have k4 := (hb3.cell (p := ⟨b, o + 4, none⟩) hbS).trans hc4; have k5 := (hb3.cell (p := ⟨b, o + 5, none⟩) hbS).trans hc5; have k6 := (hb3.cell (p := ⟨b, o + 6, none⟩) hbS).trans hc6; have k7 := (hb3.cell (p := ⟨b, o + 7, none⟩) hbS).trans hc7
    go_wp2
    exact Flow.post_det hb3 (Grow.refl _) rfl rfl
  apply Flow.det_step
  · go_light
    intro w1 hC1
    simp only [Flow.fill, Flow.after, Flow.at_, List.nil_append, List.cons_append, List.getD_cons_zero, List.getD_cons_succ, det, forall_eq, List.setIfInBounds_toArray, List.set_cons_zero, List.set_cons_succ, List.drop, List.length]
    have hb3 := hC1
    have s3 := hb3.size; have k4 := (hb3.cell (p := ⟨b, o + 4, none⟩) hbS).trans hc4; have k5 := (hb3.cell (p := ⟨b, o + 5, none⟩) hbS).trans hc5; have k6 := (hb3.cell (p := ⟨b, o + 6, none⟩) hbS).trans hc6; have k7 := (hb3.cell (p := ⟨b, o + 7, none⟩) hbS).trans hc7
    go_wp2
    exact Flow.post_det hb3 (Grow.refl _) rfl rfl
  apply Flow.det_step
  · go_light
    intro w1 hC1
    simp only [Flow.fill, Flow.after, Flow.at_, List.nil_append, List.cons_append, List.getD_cons_zero, List.getD_cons_succ, det, forall_eq, List.setIfInBounds_toArray, List.set_cons_zero, List.set_cons_succ, List.drop, List.length]
    have hb3 := hC1
    have s3 := hb3.size; have k4 := (hb3.cell (p := ⟨b, o + 4, none⟩) hbS).trans hc4; have k5 := (hb3.cell (p := ⟨b, o + 5, none⟩) hbS).trans hc5; have k6 := (hb3.cell (p := ⟨b, o + 6, none⟩) hbS).trans hc6; have k7 := (hb3.cell (p := ⟨b, o + 7, none⟩) hbS).trans hc7
    go_wp2
    exact Flow.post_det hb3 (Grow.refl _) rfl rfl
  apply Flow.det_step
  · go_light
    intro w1 hC1
    simp only [Flow.fill, Flow.after, Flow.at_, List.nil_append, List.cons_append, List.getD_cons_zero, List.getD_cons_succ, det, forall_eq, List.setIfInBounds_toArray, List.set_cons_zero, List.set_cons_succ, List.drop, List.length]
    have hb3 := hC1
    have s3 := hb3.size; have k4 := (hb3.cell (p := ⟨b, o + 4, none⟩) hbS).trans hc4; have k5 := (hb3.cell (p := ⟨b, o + 5, none⟩) hbS).trans hc5; have k6 := (hb3.cell (p := ⟨b, o + 6, none⟩) hbS).trans hc6; have k7 := (hb3.cell (p := ⟨b, o + 7, none⟩) hbS).trans hc7
    go_wp2
    exact Flow.post_det hb3 (Grow.refl _) rfl rfl
  apply Flow.det_step
  · go_light
    intro w1 hC1
    simp only [Flow.fill, Flow.after, Flow.at_, List.nil_append, List.cons_append, List.getD_cons_zero, List.getD_cons_succ, det, forall_eq, List.setIfInBounds_toArray, List.set_cons_zero, List.set_cons_succ, List.drop, List.length]
    have hb3 := hC1
    have s3 := hb3.size; have k4 := (hb3.cell (p := ⟨b, o + 4, none⟩) hbS).trans hc4; have k5 := (hb3.cell (p := ⟨b, o + 5, none⟩) hbS).trans hc5; have k6 := (hb3.cell (p := ⟨b, o + 6, none⟩) hbS).trans hc6; have k7 := (hb3.cell (p := ⟨b, o + 7, none⟩) hbS).trans hc7
    go_wp2
    exact Flow.post_det hb3 (Grow.refl _) rfl rfl
  apply Flow.det_step
  · go_light
    intro w1 hC1
    simp only [Flow.fill, Flow.after, Flow.at_, List.nil_append, List.cons_append, List.getD_cons_zero, List.getD_cons_succ, det, forall_eq, List.setIfInBounds_toArray, List.set_cons_zero, List.set_cons_succ, List.drop, List.length]
    have hb3 := hC1
    have s3 := hb3.size; have k4 := (hb3.cell (p := ⟨b, o + 4, none⟩) hbS).trans hc4; have k5 := (hb3.cell (p := ⟨b, o + 5, none⟩) hbS).trans hc5; have k6 := (hb3.cell (p := ⟨b, o + 6, none⟩) hbS).trans hc6; have k7 := (hb3.cell (p := ⟨b, o + 7, none⟩) hbS).trans hc7
    go_wp2
    exact Flow.post_det hb3 (Grow.refl _) rfl rfl
  apply Flow.det_step
  · go_light
    intro w1 hC1
    simp only [Flow.fill, Flow.after, Flow.at_, List.nil_append, List.cons_append, List.getD_cons_zero, List.getD_cons_succ, det, forall_eq, List.setIfInBounds_toArray, List.set_cons_zero, List.set_cons_succ, List.drop, List.length]
    have hb3 := hC1
    have s3 := hb3.size; have k4 := (hb3.cell (p := ⟨b, o + 4, none⟩) hbS).trans hc4; have k5 := (hb3.cell (p := ⟨b, o + 5, none⟩) hbS).trans hc5; have k6 := (hb3.cell (p := ⟨b, o + 6, none⟩) hbS).trans hc6; have k7 := (hb3.cell (p := ⟨b, o + 7, none⟩) hbS).trans hc7
    go_wp2
    exact Flow.post_det hb3 (Grow.refl _) rfl rfl
  apply Flow.det_step
  · go_light
    intro w1 hC1
    simp only [Flow.fill, Flow.after, Flow.at_, List.nil_append, List.cons_append, List.getD_cons_zero, List.getD_cons_succ, det, forall_eq, List.setIfInBounds_toArray, List.set_cons_zero, List.set_cons_succ, List.drop, List.length]
    have hb3 := hC1
    have s3 := hb3.size; have k4 := (hb3.cell (p := ⟨b, o + 4, none⟩) hbS).trans hc4; have k5 := (hb3.cell (p := ⟨b, o + 5, none⟩) hbS).trans hc5; have k6 := (hb3.cell (p := ⟨b, o + 6, none⟩) hbS).trans hc6; have k7 := (hb3.cell (p := ⟨b, o + 7, none⟩) hbS).trans hc7
    go_wp2
    exact Flow.post_det hb3 (Grow.refl _) rfl rfl
  apply Flow.det_step
  · go_light
    intro w1 hC1
    simp only [Flow.fill, Flow.after, Flow.at_, List.nil_append, List.cons_append, List.getD_cons_zero, List.getD_cons_succ, det, forall_eq, List.setIfInBounds_toArray, List.set_cons_zero, List.set_cons_succ, List.drop, List.length]
    have hb3 := hC1
    have s3 := hb3.size; have k4 := (hb3.cell (p := ⟨b, o + 4, none⟩) hbS).trans hc4; have k5 := (hb3.cell (p := ⟨b, o + 5, none⟩) hbS).trans hc5; have k6 := (hb3.cell (p := ⟨b, o + 6, none⟩) hbS).trans hc6; have k7 := (hb3.cell (p := ⟨b, o + 7, none⟩) hbS).trans hc7
    go_wp2
    exact Flow.post_det hb3 (Grow.refl _) rfl rfl
  apply Flow.det_step
  · go_light
    intro w1 hC1
    simp only [Flow.fill, Flow.after, Flow.at_, List.nil_append, List.cons_append, List.getD_cons_zero, List.getD_cons_succ, det, forall_eq, List.setIfInBounds_toArray, List.set_cons_zero, List.set_cons_succ, List.drop, List.length]
    have hb3 := hC1
    have s3 := hb3.size; have k4 := (hb3.cell (p := ⟨b, o + 4, none⟩) hbS).trans hc4; have k5 := (hb3.cell (p := ⟨b, o + 5, none⟩) hbS).trans hc5; have k6 := (hb3.cell (p := ⟨b, o + 6, none⟩) hbS).trans hc6; have k7 := (hb3.cell (p := ⟨b, o + 7, none⟩) hbS).trans hc7
    go_wp2
    exact Flow.post_det hb3 (Grow.refl _) rfl rfl
  apply Flow.det_step
  · go_light
    intro w1 hC1
    simp only [Flow.fill, Flow.after, Flow.at_, List.nil_append, List.cons_append, List.getD_cons_zero, List.getD_cons_succ, det, forall_eq, List.setIfInBounds_toArray, List.set_cons_zero, List.set_cons_succ, List.drop, List.length]
    have hb3 := hC1
    have s3 := hb3.size; have k4 := (hb3.cell (p := ⟨b, o + 4, none⟩) hbS).trans hc4; have k5 := (hb3.cell (p := ⟨b, o + 5, none⟩) hbS).trans hc5; have k6 := (hb3.cell (p := ⟨b, o + 6, none⟩) hbS).trans hc6; have k7 := (hb3.cell (p := ⟨b, o + 7, none⟩) hbS).trans hc7
    go_wp2
    exact Flow.post_det hb3 (Grow.refl _) rfl rfl
  apply Flow.det_step
  · go_light
    intro w1 hC1
    simp only [Flow.fill, Flow.after, Flow.at_, List.nil_append, List.cons_append, List.getD_cons_zero, List.getD_cons_succ, det, forall_eq, List.setIfInBounds_toArray, List.set_cons_zero, List.set_cons_succ, List.drop, List.length]
    have hb3 := hC1
    have s3 := hb3.size; have k4 := (hb3.cell (p := ⟨b, o + 4, none⟩) hbS).trans hc4; have k5 := (hb3.cell (p := ⟨b, o + 5, none⟩) hbS).trans hc5; have k6 := (hb3.cell (p := ⟨b, o + 6, none⟩) hbS).trans hc6; have k7 := (hb3.cell (p := ⟨b, o + 7, none⟩) hbS).trans hc7
    go_wp2
    exact Flow.post_det hb3 (Grow.refl _) rfl rfl
  apply Flow.det_step
  · go_light
    intro w1 hC1
    simp only [Flow.fill, Flow.after, Flow.at_, List.nil_append, List.cons_append, List.getD_cons_zero, List.getD_cons_succ, det, forall_eq, List.setIfInBounds_toArray, List.set_cons_zero, List.set_cons_succ, List.drop, List.length]
    have hb3 := hC1
    have s3 := hb3.size; have k4 := (hb3.cell (p := ⟨b, o + 4, none⟩) hbS).trans hc4; have k5 := (hb3.cell (p := ⟨b, o + 5, none⟩) hbS).trans hc5; have k6 := (hb3.cell (p := ⟨b, o + 6, none⟩) hbS).trans hc6; have k7 := (hb3.cell (p := ⟨b, o + 7, none⟩) hbS).trans hc7
    go_wp2
    exact Flow.post_det hb3 (Grow.refl _) rfl rfl
  apply Flow.det_step
  · go_light
    intro w1 hC1
    simp only [Flow.fill, Flow.after, Flow.at_, List.nil_append, List.cons_append, List.getD_cons_zero, List.getD_cons_succ, det, forall_eq, List.setIfInBounds_toArray, List.set_cons_zero, List.set_cons_succ, List.drop, List.length]
    have hb3 := hC1
    have s3 := hb3.size; have k4 := (hb3.cell (p := ⟨b, o + 4, none⟩) hbS).trans hc4; have k5 := (hb3.cell (p := ⟨b, o + 5, none⟩) hbS).trans hc5; have k6 := (hb3.cell (p := ⟨b, o + 6, none⟩) hbS).trans hc6; have k7 := (hb3.cell (p := ⟨b, o + 7, none⟩) hbS).trans hc7
    go_wp2
    exact Flow.post_det hb3 (Grow.refl _) rfl rfl
  refine Flow.st_step (blkSt wS.heap.size #[.int .u32 0, .slice none 0 0] 25) ?_ ?_
  · go_light
    intro w1 hC1
    simp only [Flow.fill, Flow.after, Flow.at_, List.nil_append, List.cons_append, List.getD_cons_zero, List.getD_cons_succ, det, forall_eq, List.setIfInBounds_toArray, List.set_cons_zero, List.set_cons_succ, List.drop, List.length]
    have hb3 := hC1
    have s3 := hb3.size; have k4 := (hb3.cell (p := ⟨b, o + 4, none⟩) hbS).trans hc4; have k5 := (hb3.cell (p := ⟨b, o + 5, none⟩) hbS).trans hc5; have k6 := (hb3.cell (p := ⟨b, o + 6, none⟩) hbS).trans hc6; have k7 := (hb3.cell (p := ⟨b, o + 7, none⟩) hbS).trans hc7
    go_wp2
    exact Flow.post_st (hb3.alloc s3 _) (Grow.alloc _ _) rfl rfl ⟨_, rfl, s3, Blk.new _ _ _⟩
  intro w1 hC1
  simp only [Flow.fill, Flow.after, Flow.at_, List.nil_append, List.cons_append, List.getD_cons_zero, List.getD_cons_succ, det, forall_eq, List.setIfInBounds_toArray, List.set_cons_zero, List.set_cons_succ, List.drop, List.length]
  rintro _ ⟨gi, rfl, hgi, hbi⟩
  have hb3 := hC1
  have HB3 : Hid (Below gr w w1) := Lib.hid (HB1.out.trans (hb3.mono (by omega)))
  have HX3 := Lib.hid (HX.out.fr (Fr.of_grow hb3) (fun h => h))
  have hgri : gr < gi := by have := hb3.size; omega
  have HI := Lib.hid hbi
  have hic := hbi.cell
  have hif := hbi.free
  have hil := hbi.lt
  obtain ⟨w4, hw4⟩ : ∃ w4, w4 = (w1.setCell ⟨gi, 0, none⟩ (.int .u32 E)).setCell ⟨gi, 1, none⟩ (.slice none 0 0) := ⟨_, rfl⟩
  have hi4 : Blk w4 gi #[.int .u32 E, .slice none 0 0] 25 := by rw [hw4]; have := (hbi.set 0 (.int .u32 E)).set 1 (.slice none 0 0); simpa using this
  have HB4 : Hid (Below gr w w4) := Lib.hid (by rw [hw4]; exact (HB3.out.setCell (p := ⟨gi, 0, none⟩) (by show gr ≤ gi; omega) _).setCell (p := ⟨gi, 1, none⟩) (by show gr ≤ gi; omega) _)
  have HX4 : Hid (Blk w4 gr #[.int .u32 0, .slice none 0 0] 25) := Lib.hid (by rw [hw4]; exact (HX3.out.set_other (p := ⟨gi, 0, none⟩) (by show gi ≠ gr; omega) _).set_other (p := ⟨gi, 1, none⟩) (by show gi ≠ gr; omega) _)
  have hst0 : ImSt w4 (gi + 1) gi E none 0 0 [] := ⟨hi4, PgS.nil _ _, rfl, by omega, hi4.lt⟩
  have HST0 := Lib.hid hst0
  have HW4 := Lib.hid hw4
  have hs4 : gi < w4.heap.size := hi4.lt
  have hbgi : b < gi := by omega
  obtain ⟨M, hM, hM2⟩ := at_nat (HF.out _ HB4.out) (show 3 < n by omega)
  have hMt : (xs.getD 3 0).toNat = M := by rw [hM]; exact Int.toNat_natCast _
  have HMT := Lib.hid hMt
  have HM := Lib.hid hM
  have wM : IntKind.i64.wrap (M : Int) = M := IntWalk.i64_in _ (by omega)
  have h3ni : (3 : Int) < n := by omega
  have h3n : 3 < n := by omega
  have HPS := Lib.hid (Par.start xs)
  have wn4 : IntKind.i64.wrap ((n : Int) - 4) = (n : Int) - 4 := IntWalk.i64_in _ (by omega)
  clear hw4 hi4 hst0 hb3 hbi HX HB1 HW hc4 hc5 hc6 hc7 hMt hM v5 v6 v7 u4 u5 u6 u7 HEN hE hEE hbS hsw
  go_wp2_with fail
  rw [← HW4.out]
  clear HW4 hic hif hil
  go_loopw [5, 6] (fun v5 i wr => ∃ (j a : Nat) (A1 : Option Addr) (c1 : Nat) (gs : List Pg), j ≤ M ∧ i = .int .i64 j ∧ v5 = .int .i64 a ∧ 8 ≤ a ∧ a ≤ n - 4 ∧ Hid (Par xs j ((restS xs).drop (a - 8)) gs) ∧ Hid (Small gs) ∧ Hid (ImSt wr (gi + 1) gi E A1 j c1 gs) ∧ Hid (FrG (gi + 1) gi w4 wr)) (fun _ i _ => M - (intOf i).toNat)
  case atStart => exact ⟨0, 8, none, 0, [], Nat.zero_le _, rfl, rfl, by omega, by omega, HPS, Lib.hid (fun g hg => by cases hg), HST0, Lib.hid (FrG.refl _ _ _)⟩
  case round =>
    obtain ⟨j, a, A1, c1, gs, hj, rfl, rfl, ha8, han, hpar, hsm, hst, hfr⟩ := hrel
    have hbg : Below gi w4 wr := hfr.out.below (by omega) (by omega)
    have hsw2 := hbg.size
    have HBW : Hid (Below gr w wr) := Lib.hid (HB4.out.trans (hbg.mono (by omega)))
    have hblr := HX4.out.fr hfr.out (fun h => by rcases h with h | h <;> omega)
    have HXR := Lib.hid hblr
    obtain ⟨b', o', e1, _, hc3, _, _⟩ := (HF.out _ HBW.out).at_ (show 3 < n by omega)
    injection e1 with e1
    injection e1 with e1 e1'
    subst e1; subst e1'
    rw [HM.out] at hc3
    clear hbg hblr
    by_cases hjn : j < M
    rotate_left
    · obtain rfl : j = M := by omega
      have hdone : pgsGo (xs.getD 3 0).toNat (restS xs) = some (gs.map Pg.key) := by
        have h1 := hpar.out
        rw [← HMT.out] at h1
        exact h1.done
      have HDN := Lib.hid hdone
      have hrp := hst.out.pgs.rp hst.out.len
      have HFI := Lib.hid (loadBytes_any E A1 j c1 gs wr wr.heap.size hrp (Nat.le_refl _) hen (hsm.out.big (by omega)))
      have hci := hst.out.blk.cell
      have hli := hst.out.blk.lt
      have hgw : gr < wr.heap.size := by omega
      have hbw : b < wr.heap.size := by omega
      clear hdone hrp hpar
      go_wp2_with fail
      refine HFI.out.mono ?_
      rintro e' w6 ⟨A6, n6, c6, bs, er, rfl, hf6, hr6, hb6⟩
      have HB6 : Hid (Below gr w w6) := Lib.hid (HBW.out.trans (hb6.mono (by omega)))
      have hbl := HXR.out.fr (Fr.of_grow hb6) (fun h => h)
      have HGD := Lib.hid (good_iff (by omega) (by omega) HDN.out (fun g hg => (hsm.out g hg).1) (by rw [← HEE.out]; exact hf6))
      have hcv1 := hr6.conv (P := Tryd.prog) c6 26 9 5 Tryd.underlying26 Tryd.underlying5 Tryd.underlying9
      have hcv2 := (HF.out _ HB6.out).conv (P := Tryd.prog) c 26 9 5 Tryd.underlying26 Tryd.underlying5 Tryd.underlying9
      have hbq := strOfNums_beq hr6.2 HBT.out
      have hst6 := hst.out.grow hb6
      have HST6 := Lib.hid hst6
      clear hf6 hr6 hb6 HFI hci hli hst6 hst hc3
      by_cases her : er = 0
      rotate_left
      · have hng := Lib.hid (show ¬ Good xs from fun hh => her (HGD.out.1 hh).1)
        have heb : (er != 0) = true := by simpa using her
        clear her hcv1 hcv2 hbq
        have hcl := hbl.cell
        have hll := hbl.lt
        have hfl := hbl.free
        have HFIN := Lib.hid (HBAD.out hng.out w6 hbl HB6.out _ _ rfl rfl)
        clear hbl
        go_wp2
        refine bodyPost_ret (v := .tuple #[.agg #[.int .u32 0, .slice none 0 0], .int .i64 3]) (by simp [results, Tryd.results16, go_sem, hcl, hll]) rfl ?_
        exact HFIN.out
      subst her
      by_cases hbs : bs = xs
      rotate_left
      · have hng := Lib.hid (show ¬ Good xs from fun hh => hbs (HGD.out.1 hh).2)
        have hd : ((strOfNums bs).toList == (strOfNums xs).toList) = false := by rw [hbq]; simpa using hbs
        clear hbs hbq
        have hcl := hbl.cell
        have hll := hbl.lt
        have hfl := hbl.free
        have HFIN := Lib.hid (HBAD.out hng.out w6 hbl HB6.out _ _ rfl rfl)
        clear hbl
        go_wp2
        refine bodyPost_ret (v := .tuple #[.agg #[.int .u32 0, .slice none 0 0], .int .i64 3]) (by simp [results, Tryd.results16, go_sem, hcl, hll]) rfl ?_
        exact HFIN.out
      have hgood := Lib.hid (HGD.out.2 ⟨rfl, hbs⟩)
      have hd : ((strOfNums bs).toList == (strOfNums xs).toList) = true := by rw [hbq]; simpa using hbs
      clear hbs hbq
      have hci := HST6.out.blk.cell
      have hli := HST6.out.blk.lt
      have hcl := hbl.cell
      have hll := hbl.lt
      have hfl := hbl.free
      have HFIN : Hid (∀ v0 v1 : Value, v0 = .int .u32 E → v1 = .slice A1 j c1 → ImgPost xs w (.returned (.tuple #[.agg #[v0, v1], .int .i64 0])) ((w6.setCell ⟨gr, 0, none⟩ v0).setCell ⟨gr, 1, none⟩ v1)) := Lib.hid (fun v0 v1 e0 e1 => by
        subst e0; subst e1
        have hp := (HST6.out.pgs.set hbl (by decide) (by decide) 0 (.int .u32 E)).set (hbl.set 0 (.int .u32 E)) (by decide) (by decide) 1 (.slice A1 j c1)
        exact ⟨E, A1, j, c1, gs, 0, rfl, .inl ⟨hgood.out, HEE.out, HDN.out, rfl⟩, hp.rp HST6.out.len, by omega, by rw [HGR.out]; exact (HB6.out.setCell (p := ⟨gr, 0, none⟩) (Nat.le_refl _) _).setCell (p := ⟨gr, 1, none⟩) (Nat.le_refl _) _⟩)
      have hgg : ¬ gr = gi := by omega
      clear hbl
      go_wp2
      refine bodyPost_ret (v := .tuple #[.agg #[.int .u32 E, .slice A1 j c1], .int .i64 0]) (by simp [results, Tryd.results16, go_sem, hcl, hll]) rfl ?_
      exact HFIN.out _ _ rfl rfl
    have hjM : j < (xs.getD 3 0).toNat := by rw [HMT.out]; exact hjn
    have hkn : (j : Int) < M := by omega
    have hrl := rest_len hl hn12 ha8 han
    have hbw : b < wr.heap.size := by omega
    have wa3 : IntKind.i64.wrap ((a : Int) + 3) = (a : Int) + 3 := IntWalk.i64_in _ (by omega)
    by_cases h3 : n - 4 - a < 3
    · have hng := Lib.hid (hpar.out.bad hjM (.inl (by rw [hrl]; exact h3)))
      have hbl := HXR.out
      have h3i : (n : Int) - 4 < (a : Int) + 3 := by omega
      clear hpar hst hjM
      have hcl := hbl.cell
      have hll := hbl.lt
      have hfl := hbl.free
      have HFIN := Lib.hid (HBAD.out hng.out wr hbl HBW.out _ _ rfl rfl)
      clear hbl
      go_wp2
      refine bodyPost_ret (v := .tuple #[.agg #[.int .u32 0, .slice none 0 0], .int .i64 3]) (by simp [results, Tryd.results16, go_sem, hcl, hll]) rfl ?_
      exact HFIN.out
    have h3i : ¬ (n : Int) - 4 < (a : Int) + 3 := by omega
    have ha2 : a + 2 < n := by omega
    obtain ⟨m, hm, hm2⟩ := at_nat (HF.out _ HBW.out) (show a + 2 < n by omega)
    obtain ⟨b', o', e1, _, ha2c, _, _⟩ := (HF.out _ HBW.out).at_ (show a + 2 < n by omega)
    injection e1 with e1
    injection e1 with e1 e1'
    subst e1; subst e1'
    rw [hm] at ha2c
    have hr2 : ((restS xs).drop (a - 8)).getD 2 0 = m := by rw [rest_at hl hn12 ha8 (by omega), hm]
    have wa2 : IntKind.i64.wrap ((a : Int) + 2) = (a : Int) + 2 := IntWalk.i64_in _ (by omega)
    have wm : IntKind.i64.wrap (m : Int) = m := IntWalk.i64_in _ (by omega)
    have wam : IntKind.i64.wrap ((a : Int) + 3 + m) = (a : Int) + 3 + m := IntWalk.i64_in _ (by omega)
    have ha2i : (a : Int) + 2 < n := by omega
    have ha2z : (0 : Int) ≤ (a : Int) + 2 := by omega
    have hta2 : ((a : Int) + 2).toNat = a + 2 := by omega
    by_cases hbig : n - 4 < a + 3 + m
    · have hng := Lib.hid (hpar.out.bad hjM (.inr (by rw [hrl, hr2]; omega)))
      have hbl := HXR.out
      have hbi : (n : Int) - 4 < (a : Int) + 3 + m := by omega
      clear hpar hst hjM hr2 hm
      have hcl := hbl.cell
      have hll := hbl.lt
      have hfl := hbl.free
      have HFIN := Lib.hid (HBAD.out hng.out wr hbl HBW.out _ _ rfl rfl)
      clear hbl
      go_wp2
      refine bodyPost_ret (v := .tuple #[.agg #[.int .u32 0, .slice none 0 0], .int .i64 3]) (by simp [results, Tryd.results16, go_sem, hcl, hll]) rfl ?_
      exact HFIN.out
    have hbi : ¬ (n : Int) - 4 < (a : Int) + 3 + m := by omega
    have hgood : ¬ (((restS xs).drop (a - 8)).length < 3 ∨ (((restS xs).drop (a - 8)).length : Int) - 3 < ((restS xs).drop (a - 8)).getD 2 0) := by rw [hrl, hr2]; omega
    have HPN := Lib.hid (fun (x : Pg) (hx : x.key = (xs.getD a 0, xs.getD (a + 1) 0, (xs.drop (a + 3)).take m)) => hpar.out.next (x := x) hjM hgood (by
      rw [hx, hr2, rest_at hl hn12 ha8 (by omega), rest_at hl hn12 ha8 (by omega), Int.toNat_natCast, rest_data hl hn12 ha8 (by omega)]
      rfl))
    rw [hr2, Int.toNat_natCast, rest_next ha8] at HPN
    obtain ⟨b', o', e1, _, ha0c, pa0, qa0⟩ := (HF.out _ HBW.out).at_ (show a < n by omega)
    injection e1 with e1
    injection e1 with e1 e1'
    subst e1; subst e1'
    obtain ⟨b', o', e1, _, ha1c, pa1, qa1⟩ := (HF.out _ HBW.out).at_ (show a + 1 < n by omega)
    injection e1 with e1
    injection e1 with e1 e1'
    subst e1; subst e1'
    obtain ⟨A3, hA3, hsl⟩ := slice_two (some ⟨b, o, none⟩) n c (a + 3) m ((a : Int) + 3 + m) (by push_cast; rfl) ((a : Int) + 3) (by push_cast; rfl) (by omega) hnc hcm
    have hr3 : RB wr gr A3 m ((xs.drop (a + 3)).take m) := rb_take (rb_cut (HF.out _ HBW.out) (show a + 3 ≤ n by omega) hnc A3 hA3) (show m ≤ n - (a + 3) by omega)
    have hT : ((xs.drop (a + 3)).take m).length = m := hr3.len
    clear hpar hjM hgood hr2 hm hA3
    generalize (xs.drop (a + 3)).take m = T at *
    generalize xs.getD a 0 = p at *
    generalize xs.getD (a + 1) 0 = r at *
    have wp : IntKind.i64.wrap p = p := IntWalk.i64_in _ (by omega)
    have wr' : IntKind.i64.wrap r = r := IntWalk.i64_in _ (by omega)
    have wa1 : IntKind.i64.wrap ((a : Int) + 1) = (a : Int) + 1 := IntWalk.i64_in _ (by omega)
    have hta1 : ((a : Int) + 1).toNat = a + 1 := by omega
    have ha1i : (a : Int) + 1 < n := by omega
    have ha1z : (0 : Int) ≤ (a : Int) + 1 := by omega
    have ha0i : (a : Int) < n := by omega
    have w3m : IntKind.i64.wrap (3 + (m : Int)) = 3 + (m : Int) := IntWalk.i64_in _ (by omega)
    have wa3m : IntKind.i64.wrap ((a : Int) + (3 + (m : Int))) = (a : Int) + (3 + (m : Int)) := IntWalk.i64_in _ (by omega)
    have HSL := Lib.hid hsl
    have HRT := Lib.hid hr3
    have HTB : Hid (Byt T) := Lib.hid hr3.2
    have hst0 := hst.out
    have hown1 : ∀ k, (Value.slice A1 j c1).ownBlock = some k → gi < k ∧ k < wr.heap.size := fun k hk => by
      have := hst0.pgs.row.lt k hk
      omega
    have hZ : ∀ ys w w', ZQ gs p r T m (gi + 1) A1 j c1 ys w → Fr (fun k => (Value.slice A1 j c1).ownBlock = some k) w w' → ZQ gs p r T m (gi + 1) A1 j c1 ys w' := fun ys w w' h hf => h.fr hf
    have HZ := Lib.hid hZ
    have hrow5 := hst0.pgs.row
    rw [hst0.len] at hrow5
    have HROW := Lib.hid hrow5
    have HPR : Hid (I64 p ∧ I64 r) := Lib.hid ⟨⟨by omega, by omega⟩, ⟨by omega, by omega⟩⟩
    have HSN := Lib.hid (fun (x : Pg) (h1 : x.p = p) (h2 : x.r = r) (h3 : x.xs = T) => HPN.out x (by unfold Pg.key; rw [h1, h2, h3]))
    have hbs5 := hst0.base
    obtain ⟨wT, hwT⟩ : ∃ wT, wT = wr := ⟨_, rfl⟩
    have hng : ¬ (Value.slice A1 j c1).ownBlock = some gi := fun e => by have := hown1 _ e; omega
    have hnb : ¬ (Value.slice A1 j c1).ownBlock = some b := fun e => by have := hown1 _ e; omega
    have HO1 : Hid (∀ k, (Value.slice A1 j c1).ownBlock = some k → gi < k ∧ k < wr.heap.size) := Lib.hid hown1
    rw [← hwT] at hst0 HROW HRT HO1 hbs5 hbw hc3 ha2c ha0c ha1c HBW HXR hfr hsw2 ⊢
    have HS5 := Lib.hid hst0
    have hq0 := HS5.out.blk.cell 0
    have hq1 := HS5.out.blk.cell 1
    have hlg := HS5.out.blk.lt
    dsimp at hq0 hq1
    clear hst hwT hst0 hown1 hZ hrow5 hr3 hsl HPN
    go_wp2_with fail
    refine FR.wp_region_walk (AppZF (ZQ gs p r T m (gi + 1) A1 j c1) (gi + 1) 41 3 wT.heap.size A1 j c1 (j + 1)) (fun w' => Fr (fun k => (Value.slice A1 j c1).ownBlock = some k) wT w' ∧ Row w' (gi + 1) 41 3 (.slice A1 j c1) j (gs.flatMap Pg.cells)) [[], [(78, 0)], [], [], [(80, 2), (81, 3)], [(82, 4)], [(83, 5)], [], [], [(86, 8)], [(85, 7), (87, 9)], [(88, 10)], [(89, 11)], [], [], [(92, 14)], [], [(94, 16)], [], [(95, 17), (96, 18)], [(91, 13), (93, 15), (97, 19)], [(98, 20)], [(84, 6), (90, 12), (99, 21)], [(100, 22)], [(79, 1), (101, 23)], []]
      [(78, 0), (79, 1), (80, 2), (81, 3), (82, 4), (83, 5), (84, 6), (85, 7), (86, 8), (87, 9), (88, 10), (89, 11), (90, 12), (91, 13), (92, 14), (93, 15), (94, 16), (95, 17), (96, 18), (97, 19), (98, 20), (99, 21), (100, 22), (101, 23), (102, 24), (103, 25)] (by kernel_rfl) (by kernel_rfl) (by kernel_rfl) ⟨(Fr.refl _ _).drew, HROW.out.drew⟩ ?_
    apply FR.Flow.det_step
    · go_light
      intro w1 hC1
      simp only [FR.Flow.fill, FR.Flow.after, FR.Flow.at_, List.nil_append, List.cons_append, List.getD_cons_zero, List.getD_cons_succ, FR.det, forall_eq, List.setIfInBounds_toArray, List.set_cons_zero, List.set_cons_succ, List.drop, List.length]
      obtain ⟨hf, hr⟩ := hC1
      have s1 := hf.size; have z1 := (hf.cell (p := ⟨gi, 1, none⟩) hlg hng).trans hq1; have y0 := (hf.cell (p := ⟨b, o + a, none⟩) hbw hnb).trans ha0c; have y1 := (hf.cell (p := ⟨b, o + (a + 1), none⟩) hbw hnb).trans ha1c
      go_wp2
      exact FR.Flow.post_det ⟨hf, hr⟩ (AppZF.refl _) rfl rfl
    apply FR.Flow.det_step
    · go_light
      intro w1 hC1
      simp only [FR.Flow.fill, FR.Flow.after, FR.Flow.at_, List.nil_append, List.cons_append, List.getD_cons_zero, List.getD_cons_succ, FR.det, forall_eq, List.setIfInBounds_toArray, List.set_cons_zero, List.set_cons_succ, List.drop, List.length]
      obtain ⟨hf, hr⟩ := hC1
      have s1 := hf.size; have z1 := (hf.cell (p := ⟨gi, 1, none⟩) hlg hng).trans hq1; have y0 := (hf.cell (p := ⟨b, o + a, none⟩) hbw hnb).trans ha0c; have y1 := (hf.cell (p := ⟨b, o + (a + 1), none⟩) hbw hnb).trans ha1c
      go_wp2
      exact FR.Flow.post_det ⟨hf, hr⟩ (AppZF.refl _) rfl rfl
    apply FR.Flow.det_step
    · go_light
      intro w1 hC1
      simp only [FR.Flow.fill, FR.Flow.after, FR.Flow.at_, List.nil_append, List.cons_append, List.getD_cons_zero, List.getD_cons_succ, FR.det, forall_eq, List.setIfInBounds_toArray, List.set_cons_zero, List.set_cons_succ, List.drop, List.length]
      obtain ⟨hf, hr⟩ := hC1
      have s1 := hf.size; have z1 := (hf.cell (p := ⟨gi, 1, none⟩) hlg hng).trans hq1; have y0 := (hf.cell (p := ⟨b, o + a, none⟩) hbw hnb).trans ha0c; have y1 := (hf.cell (p := ⟨b, o + (a + 1), none⟩) hbw hnb).trans ha1c
      go_wp2
      exact FR.Flow.post_det ⟨hf, hr⟩ (AppZF.refl _) rfl rfl
    apply FR.Flow.det_step
    · go_light
      intro w1 hC1
      simp only [FR.Flow.fill, FR.Flow.after, FR.Flow.at_, List.nil_append, List.cons_append, List.getD_cons_zero, List.getD_cons_succ, FR.det, forall_eq, List.setIfInBounds_toArray, List.set_cons_zero, List.set_cons_succ, List.drop, List.length]
      obtain ⟨hf, hr⟩ := hC1
      have s1 := hf.size; have z1 := (hf.cell (p := ⟨gi, 1, none⟩) hlg hng).trans hq1; have y0 := (hf.cell (p := ⟨b, o + a, none⟩) hbw hnb).trans ha0c; have y1 := (hf.cell (p := ⟨b, o + (a + 1), none⟩) hbw hnb).trans ha1c
      go_wp2
      exact FR.Flow.post_det ⟨hf, hr⟩ (AppZF.refl _) rfl rfl
    apply FR.Flow.det_step
    · go_light
      intro w1 hC1
      simp only [FR.Flow.fill, FR.Flow.after, FR.Flow.at_, List.nil_append, List.cons_append, List.getD_cons_zero, List.getD_cons_succ, FR.det, forall_eq, List.setIfInBounds_toArray, List.set_cons_zero, List.set_cons_succ, List.drop, List.length]
      obtain ⟨hf, hr⟩ := hC1
      have s1 := hf.size; have z1 := (hf.cell (p := ⟨gi, 1, none⟩) hlg hng).trans hq1; have y0 := (hf.cell (p := ⟨b, o + a, none⟩) hbw hnb).trans ha0c; have y1 := (hf.cell (p := ⟨b, o + (a + 1), none⟩) hbw hnb).trans ha1c
      go_wp2
      exact FR.Flow.post_det ⟨hf, hr⟩ (AppZF.refl _) rfl rfl
    apply FR.Flow.det_step
    · go_light
      intro w1 hC1
      simp only [FR.Flow.fill, FR.Flow.after, FR.Flow.at_, List.nil_append, List.cons_append, List.getD_cons_zero, List.getD_cons_succ, FR.det, forall_eq, List.setIfInBounds_toArray, List.set_cons_zero, List.set_cons_succ, List.drop, List.length]
      obtain ⟨hf, hr⟩ := hC1
      have s1 := hf.size; have z1 := (hf.cell (p := ⟨gi, 1, none⟩) hlg hng).trans hq1; have y0 := (hf.cell (p := ⟨b, o + a, none⟩) hbw hnb).trans ha0c; have y1 := (hf.cell (p := ⟨b, o + (a + 1), none⟩) hbw hnb).trans ha1c
      go_wp2
      exact FR.Flow.post_det ⟨hf, hr⟩ (AppZF.refl _) rfl rfl
    apply FR.Flow.det_step
    · go_light
      intro w1 hC1
      simp only [FR.Flow.fill, FR.Flow.after, FR.Flow.at_, List.nil_append, List.cons_append, List.getD_cons_zero, List.getD_cons_succ, FR.det, forall_eq, List.setIfInBounds_toArray, List.set_cons_zero, List.set_cons_succ, List.drop, List.length]
      obtain ⟨hf, hr⟩ := hC1
      have s1 := hf.size; have z1 := (hf.cell (p := ⟨gi, 1, none⟩) hlg hng).trans hq1; have y0 := (hf.cell (p := ⟨b, o + a, none⟩) hbw hnb).trans ha0c; have y1 := (hf.cell (p := ⟨b, o + (a + 1), none⟩) hbw hnb).trans ha1c
      go_wp2
      exact FR.Flow.post_det ⟨hf, hr⟩ (AppZF.refl _) rfl rfl
    apply FR.Flow.det_step
    · go_light
      intro w1 hC1
      simp only [FR.Flow.fill, FR.Flow.after, FR.Flow.at_, List.nil_append, List.cons_append, List.getD_cons_zero, List.getD_cons_succ, FR.det, forall_eq, List.setIfInBounds_toArray, List.set_cons_zero, List.set_cons_succ, List.drop, List.length]
      obtain ⟨hf, hr⟩ := hC1
      have s1 := hf.size; have z1 := (hf.cell (p := ⟨gi, 1, none⟩) hlg hng).trans hq1; have y0 := (hf.cell (p := ⟨b, o + a, none⟩) hbw hnb).trans ha0c; have y1 := (hf.cell (p := ⟨b, o + (a + 1), none⟩) hbw hnb).trans ha1c
      go_wp2
      exact FR.Flow.post_det ⟨hf, hr⟩ (AppZF.refl _) rfl rfl
    apply FR.Flow.det_step
    · go_light
      intro w1 hC1
      simp only [FR.Flow.fill, FR.Flow.after, FR.Flow.at_, List.nil_append, List.cons_append, List.getD_cons_zero, List.getD_cons_succ, FR.det, forall_eq, List.setIfInBounds_toArray, List.set_cons_zero, List.set_cons_succ, List.drop, List.length]
      obtain ⟨hf, hr⟩ := hC1
      have s1 := hf.size; have z1 := (hf.cell (p := ⟨gi, 1, none⟩) hlg hng).trans hq1; have y0 := (hf.cell (p := ⟨b, o + a, none⟩) hbw hnb).trans ha0c; have y1 := (hf.cell (p := ⟨b, o + (a + 1), none⟩) hbw hnb).trans ha1c
      go_wp2
      exact FR.Flow.post_det ⟨hf, hr⟩ (AppZF.refl _) rfl rfl
    apply FR.Flow.det_step
    · go_light
      intro w1 hC1
      simp only [FR.Flow.fill, FR.Flow.after, FR.Flow.at_, List.nil_append, List.cons_append, List.getD_cons_zero, List.getD_cons_succ, FR.det, forall_eq, List.setIfInBounds_toArray, List.set_cons_zero, List.set_cons_succ, List.drop, List.length]
      obtain ⟨hf, hr⟩ := hC1
      have s1 := hf.size; have z1 := (hf.cell (p := ⟨gi, 1, none⟩) hlg hng).trans hq1; have y0 := (hf.cell (p := ⟨b, o + a, none⟩) hbw hnb).trans ha0c; have y1 := (hf.cell (p := ⟨b, o + (a + 1), none⟩) hbw hnb).trans ha1c
      go_wp2
      exact FR.Flow.post_det ⟨hf, hr⟩ (AppZF.refl _) rfl rfl
    apply FR.Flow.det_step
    · go_light
      intro w1 hC1
      simp only [FR.Flow.fill, FR.Flow.after, FR.Flow.at_, List.nil_append, List.cons_append, List.getD_cons_zero, List.getD_cons_succ, FR.det, forall_eq, List.setIfInBounds_toArray, List.set_cons_zero, List.set_cons_succ, List.drop, List.length]
      obtain ⟨hf, hr⟩ := hC1
      have s1 := hf.size; have z1 := (hf.cell (p := ⟨gi, 1, none⟩) hlg hng).trans hq1; have y0 := (hf.cell (p := ⟨b, o + a, none⟩) hbw hnb).trans ha0c; have y1 := (hf.cell (p := ⟨b, o + (a + 1), none⟩) hbw hnb).trans ha1c
      go_wp2
      exact FR.Flow.post_det ⟨hf, hr⟩ (AppZF.refl _) rfl rfl
    apply FR.Flow.det_step
    · go_light
      intro w1 hC1
      simp only [FR.Flow.fill, FR.Flow.after, FR.Flow.at_, List.nil_append, List.cons_append, List.getD_cons_zero, List.getD_cons_succ, FR.det, forall_eq, List.setIfInBounds_toArray, List.set_cons_zero, List.set_cons_succ, List.drop, List.length]
      obtain ⟨hf, hr⟩ := hC1
      have s1 := hf.size; have z1 := (hf.cell (p := ⟨gi, 1, none⟩) hlg hng).trans hq1; have y0 := (hf.cell (p := ⟨b, o + a, none⟩) hbw hnb).trans ha0c; have y1 := (hf.cell (p := ⟨b, o + (a + 1), none⟩) hbw hnb).trans ha1c
      go_wp2
      exact FR.Flow.post_det ⟨hf, hr⟩ (AppZF.refl _) rfl rfl
    apply FR.Flow.det_step
    · go_light
      intro w1 hC1
      simp only [FR.Flow.fill, FR.Flow.after, FR.Flow.at_, List.nil_append, List.cons_append, List.getD_cons_zero, List.getD_cons_succ, FR.det, forall_eq, List.setIfInBounds_toArray, List.set_cons_zero, List.set_cons_succ, List.drop, List.length]
      obtain ⟨hf, hr⟩ := hC1
      have s1 := hf.size; have z1 := (hf.cell (p := ⟨gi, 1, none⟩) hlg hng).trans hq1; have y0 := (hf.cell (p := ⟨b, o + a, none⟩) hbw hnb).trans ha0c; have y1 := (hf.cell (p := ⟨b, o + (a + 1), none⟩) hbw hnb).trans ha1c
      go_wp2
      exact FR.Flow.post_det ⟨hf, hr⟩ (AppZF.refl _) rfl rfl
    apply FR.Flow.det_step
    · go_light
      intro w1 hC1
      simp only [FR.Flow.fill, FR.Flow.after, FR.Flow.at_, List.nil_append, List.cons_append, List.getD_cons_zero, List.getD_cons_succ, FR.det, forall_eq, List.setIfInBounds_toArray, List.set_cons_zero, List.set_cons_succ, List.drop, List.length]
      obtain ⟨hf, hr⟩ := hC1
      have s1 := hf.size; have z1 := (hf.cell (p := ⟨gi, 1, none⟩) hlg hng).trans hq1; have y0 := (hf.cell (p := ⟨b, o + a, none⟩) hbw hnb).trans ha0c; have y1 := (hf.cell (p := ⟨b, o + (a + 1), none⟩) hbw hnb).trans ha1c
      go_wp2
      exact FR.Flow.post_det ⟨hf, hr⟩ (AppZF.refl _) rfl rfl
    apply FR.Flow.det_step
    · go_light
      intro w1 hC1
      simp only [FR.Flow.fill, FR.Flow.after, FR.Flow.at_, List.nil_append, List.cons_append, List.getD_cons_zero, List.getD_cons_succ, FR.det, forall_eq, List.setIfInBounds_toArray, List.set_cons_zero, List.set_cons_succ, List.drop, List.length]
      obtain ⟨hf, hr⟩ := hC1
      have s1 := hf.size; have z1 := (hf.cell (p := ⟨gi, 1, none⟩) hlg hng).trans hq1; have y0 := (hf.cell (p := ⟨b, o + a, none⟩) hbw hnb).trans ha0c; have y1 := (hf.cell (p := ⟨b, o + (a + 1), none⟩) hbw hnb).trans ha1c
      go_wp2
      exact FR.Flow.post_det ⟨hf, hr⟩ (AppZF.refl _) rfl rfl
    apply FR.Flow.det_step
    · go_light
      intro w1 hC1
      simp only [FR.Flow.fill, FR.Flow.after, FR.Flow.at_, List.nil_append, List.cons_append, List.getD_cons_zero, List.getD_cons_succ, FR.det, forall_eq, List.setIfInBounds_toArray, List.set_cons_zero, List.set_cons_succ, List.drop, List.length]
      obtain ⟨hf, hr⟩ := hC1
      have s1 := hf.size; have z1 := (hf.cell (p := ⟨gi, 1, none⟩) hlg hng).trans hq1; have y0 := (hf.cell (p := ⟨b, o + a, none⟩) hbw hnb).trans ha0c; have y1 := (hf.cell (p := ⟨b, o + (a + 1), none⟩) hbw hnb).trans ha1c
      go_wp2
      exact FR.Flow.post_det ⟨hf, hr⟩ (AppZF.refl _) rfl rfl
    apply FR.Flow.det_step
    · go_light
      intro w1 hC1
      simp only [FR.Flow.fill, FR.Flow.after, FR.Flow.at_, List.nil_append, List.cons_append, List.getD_cons_zero, List.getD_cons_succ, FR.det, forall_eq, List.setIfInBounds_toArray, List.set_cons_zero, List.set_cons_succ, List.drop, List.length]
      obtain ⟨hf, hr⟩ := hC1
      have s1 := hf.size; have z1 := (hf.cell (p := ⟨gi, 1, none⟩) hlg hng).trans hq1; have y0 := (hf.cell (p := ⟨b, o + a, none⟩) hbw hnb).trans ha0c; have y1 := (hf.cell (p := ⟨b, o + (a + 1), none⟩) hbw hnb).trans ha1c
      go_wp2
      exact FR.Flow.post_det ⟨hf, hr⟩ (AppZF.refl _) rfl rfl
    apply FR.Flow.det_step
    · go_light
      intro w1 hC1
      simp only [FR.Flow.fill, FR.Flow.after, FR.Flow.at_, List.nil_append, List.cons_append, List.getD_cons_zero, List.getD_cons_succ, FR.det, forall_eq, List.setIfInBounds_toArray, List.set_cons_zero, List.set_cons_succ, List.drop, List.length]
      obtain ⟨hf, hr⟩ := hC1
      have s1 := hf.size; have z1 := (hf.cell (p := ⟨gi, 1, none⟩) hlg hng).trans hq1; have y0 := (hf.cell (p := ⟨b, o + a, none⟩) hbw hnb).trans ha0c; have y1 := (hf.cell (p := ⟨b, o + (a + 1), none⟩) hbw hnb).trans ha1c
      go_wp2
      exact FR.Flow.post_det ⟨hf, hr⟩ (AppZF.refl _) rfl rfl
    apply FR.Flow.det_step
    · go_light
      intro w1 hC1
      simp only [FR.Flow.fill, FR.Flow.after, FR.Flow.at_, List.nil_append, List.cons_append, List.getD_cons_zero, List.getD_cons_succ, FR.det, forall_eq, List.setIfInBounds_toArray, List.set_cons_zero, List.set_cons_succ, List.drop, List.length]
      obtain ⟨hf, hr⟩ := hC1
      have s1 := hf.size; have z1 := (hf.cell (p := ⟨gi, 1, none⟩) hlg hng).trans hq1; have y0 := (hf.cell (p := ⟨b, o + a, none⟩) hbw hnb).trans ha0c; have y1 := (hf.cell (p := ⟨b, o + (a + 1), none⟩) hbw hnb).trans ha1c
      go_wp2
      exact FR.Flow.post_det ⟨hf, hr⟩ (AppZF.refl _) rfl rfl
    apply FR.Flow.det_step
    · go_light
      intro w1 hC1
      simp only [FR.Flow.fill, FR.Flow.after, FR.Flow.at_, List.nil_append, List.cons_append, List.getD_cons_zero, List.getD_cons_succ, FR.det, forall_eq, List.setIfInBounds_toArray, List.set_cons_zero, List.set_cons_succ, List.drop, List.length]
      obtain ⟨hf, hr⟩ := hC1
      have s1 := hf.size; have z1 := (hf.cell (p := ⟨gi, 1, none⟩) hlg hng).trans hq1; have y0 := (hf.cell (p := ⟨b, o + a, none⟩) hbw hnb).trans ha0c; have y1 := (hf.cell (p := ⟨b, o + (a + 1), none⟩) hbw hnb).trans ha1c
      go_wp2
      exact FR.Flow.post_det ⟨hf, hr⟩ (AppZF.refl _) rfl rfl
    apply FR.Flow.det_step
    · go_light
      intro w1 hC1
      simp only [FR.Flow.fill, FR.Flow.after, FR.Flow.at_, List.nil_append, List.cons_append, List.getD_cons_zero, List.getD_cons_succ, FR.det, forall_eq, List.setIfInBounds_toArray, List.set_cons_zero, List.set_cons_succ, List.drop, List.length]
      obtain ⟨hf, hr⟩ := hC1
      have s1 := hf.size; have z1 := (hf.cell (p := ⟨gi, 1, none⟩) hlg hng).trans hq1; have y0 := (hf.cell (p := ⟨b, o + a, none⟩) hbw hnb).trans ha0c; have y1 := (hf.cell (p := ⟨b, o + (a + 1), none⟩) hbw hnb).trans ha1c
      refine wpList_slice_lh rfl 26 5 (.tmp 91) (.tmp 93) (.tmp 97) rfl Tryd.underlying26 _ _ _ rfl rfl rfl _ (HSL.out _) ?_
      go_wp2
      exact FR.Flow.post_det ⟨hf, hr⟩ (AppZF.refl _) rfl rfl
    refine FR.Flow.st_step (frSt (ZQ gs p r T m (gi + 1) A1 j c1) (gi + 1) 41 3 wT.heap.size A1 j c1 (j + 1) (PN T m (gi + 1) A1 j c1) (PN.fr)) ?_ ?_
    · go_light
      intro w1 hC1
      simp only [FR.Flow.fill, FR.Flow.after, FR.Flow.at_, List.nil_append, List.cons_append, List.getD_cons_zero, List.getD_cons_succ, FR.det, forall_eq, List.setIfInBounds_toArray, List.set_cons_zero, List.set_cons_succ, List.drop, List.length]
      obtain ⟨hf, hr⟩ := hC1
      have s1 := hf.size; have z1 := (hf.cell (p := ⟨gi, 1, none⟩) hlg hng).trans hq1; have y0 := (hf.cell (p := ⟨b, o + a, none⟩) hbw hnb).trans ha0c; have y1 := (hf.cell (p := ⟨b, o + (a + 1), none⟩) hbw hnb).trans ha1c
      refine wpList_append_row w1 rfl (.const (.slice none 0 0)) (.tmp 98) 26 rfl (gi + 1) 5 i0 (.int .u8 0) 1 1 Tryd.underlying26 hi hz0 hz1 hz2 rfl (by decide) (.slice none 0 0) 0 [] rfl (Row.nil _ _ _ _) w1.heap.size A3 m (c - (a + 3)) (T.map (Value.int .u8)) rfl ((HRT.out.below' (hf.below (B := gr) (by omega) (fun k hk => by have := HO1.out k hk; omega)) (Nat.le_refl _)).1.more (by omega)) (one_i _) (by unfold maxLen; omega) (by omega) (by omega) ?_
      intro A8 c8 w8 hr8 hg8 ho8
      have hb8 : Below w1.heap.size w1 w8 := (Below.refl _ _).grown hg8 (Nat.le_refl _) (fun k hk => by cases hk)
      have hf8 : Fr (fun k => (Value.slice A1 j c1).ownBlock = some k) w1 w8 := (Fr.of_grow hb8).mono fun _ _ h => h.elim
      simp only [Nat.zero_add, List.nil_append] at hr8 ho8 ⊢
      obtain ⟨A', c', es, hx1, hx2⟩ := hr8.shape
      injection es with e1 e2 e3
      subst e1; subst e3
      unfold maxLen at hx2
      exact FR.Flow.post_st ⟨Fr.trans' hf hf8, hr.grow hb8⟩ (AppZF.grow HZ.out hb8) rfl rfl ⟨A8, c8, rfl, OwnBs.of_row hr8 HTB.out, hx1, by omega, fun k hk e => by rcases ho8 with e8 | e8 <;> rw [e8] at hk <;> first | (cases hk; done) | (injection hk with hk; have h2 := (hr.lt k e).2; omega)⟩
    refine FR.Flow.st_step (frSt (ZQ gs p r T m (gi + 1) A1 j c1) (gi + 1) 41 3 wT.heap.size A1 j c1 (j + 1) (PQ p r T m (gi + 1) A1 j c1) (PQ.fr)) ?_ ?_
    · go_light
      intro w1 hC1
      simp only [FR.Flow.fill, FR.Flow.after, FR.Flow.at_, List.nil_append, List.cons_append, List.getD_cons_zero, List.getD_cons_succ, FR.det, forall_eq, List.setIfInBounds_toArray, List.set_cons_zero, List.set_cons_succ, List.drop, List.length]
      rintro _ ⟨A8, c8, rfl, ho8, hx1, hx2, hn8⟩
      obtain ⟨hf, hr⟩ := hC1
      have s1 := hf.size; have z1 := (hf.cell (p := ⟨gi, 1, none⟩) hlg hng).trans hq1; have y0 := (hf.cell (p := ⟨b, o + a, none⟩) hbw hnb).trans ha0c; have y1 := (hf.cell (p := ⟨b, o + (a + 1), none⟩) hbw hnb).trans ha1c
      go_wp2
      exact FR.Flow.post_st ⟨hf, hr⟩ (AppZF.refl _) rfl rfl ⟨A8, c8, rfl, ho8, hx1, hx2, hn8⟩
    refine FR.Flow.st_step (frSt (ZQ gs p r T m (gi + 1) A1 j c1) (gi + 1) 41 3 wT.heap.size A1 j c1 (j + 1) (PR p r T m (gi + 1) A1 j c1) (PR.fr)) ?_ ?_
    · go_light
      intro w1 hC1
      simp only [FR.Flow.fill, FR.Flow.after, FR.Flow.at_, List.nil_append, List.cons_append, List.getD_cons_zero, List.getD_cons_succ, FR.det, forall_eq, List.setIfInBounds_toArray, List.set_cons_zero, List.set_cons_succ, List.drop, List.length]
      rintro _ ⟨A8, c8, rfl, ho8, hx1, hx2, hn8⟩
      obtain ⟨hf, hr⟩ := hC1
      have s1 := hf.size; have z1 := (hf.cell (p := ⟨gi, 1, none⟩) hlg hng).trans hq1; have y0 := (hf.cell (p := ⟨b, o + a, none⟩) hbw hnb).trans ha0c; have y1 := (hf.cell (p := ⟨b, o + (a + 1), none⟩) hbw hnb).trans ha1c
      go_wp2
      exact FR.Flow.post_st ⟨hf.alloc _, hr.alloc _⟩ (AppZF.grow HZ.out ((Below.refl _ _).alloc (Nat.le_refl _) _)) rfl rfl ⟨w1.heap.size, A8, c8, rfl, ho8.grow ((Below.refl _ _).alloc (Nat.le_refl _) _), hx1, hx2, hn8, reads_cells w1 41 (Pg.cells ⟨p, r, A8, m, c8, T⟩) rfl, by simp, fun e => by have h2 := (hr.lt _ e).2; omega⟩
    refine FR.Flow.st_step (appzSt (ZQ gs p r T m (gi + 1) A1 j c1) (gi + 1) 41 3 wT.heap.size A1 j c1 (j + 1)) ?_ ?_
    · go_light
      intro w1 hC1
      simp only [FR.Flow.fill, FR.Flow.after, FR.Flow.at_, List.nil_append, List.cons_append, List.getD_cons_zero, List.getD_cons_succ, FR.det, forall_eq, List.setIfInBounds_toArray, List.set_cons_zero, List.set_cons_succ, List.drop, List.length]
      rintro _ ⟨g6, A8, c8, rfl, ho8, hx1, hx2, hn8, hrd6, hg6, hn6⟩
      obtain ⟨hf, hr⟩ := hC1
      have s1 := hf.size; have z1 := (hf.cell (p := ⟨gi, 1, none⟩) hlg hng).trans hq1; have y0 := (hf.cell (p := ⟨b, o + a, none⟩) hbw hnb).trans ha0c; have y1 := (hf.cell (p := ⟨b, o + (a + 1), none⟩) hbw hnb).trans ha1c
      refine wpList_append_row_z w1 rfl (.tmp 79) (.tmp 101) 23 rfl (ZQ gs p r T m (gi + 1) A1 j c1) (gi + 1) 41 i1 (.agg #[.int .i64 0, .int .i64 0, .slice none 0 0]) 3 40 Tryd.underlying23 hi1 hz3 hz4 hz5 rfl (by decide) A1 j c1 (gs.flatMap Pg.cells) rfl hr (g6 + 1) (some ⟨g6, 0, none⟩) 1 1 (Pg.cells ⟨p, r, A8, m, c8, T⟩) rfl hrd6 (one_pg _) (by unfold maxLen; omega) (by omega) (by omega) (by decide) wT.heap.size s1 (fun k hk => by have := HO1.out k hk; omega) HZ.out ⟨⟨p, r, A8, m, c8, T⟩, rfl, rfl, rfl, rfl, ⟨ho8, HPR.out.1, HPR.out.2, by show m ≤ _; omega⟩, hn8, rfl, hx1, hx2⟩ ?_
      intro A9 c9 w9 hA9 hR9 hr9 hg9
      exact FR.Flow.post_st ⟨hf.grown hg9 (fun k e _ => e), hr9⟩ hR9 rfl rfl ⟨A9, c9, rfl, hA9⟩
    apply FR.Flow.det_step
    · go_light
      intro w1 hC1
      simp only [FR.Flow.fill, FR.Flow.after, FR.Flow.at_, List.nil_append, List.cons_append, List.getD_cons_zero, List.getD_cons_succ, FR.det, forall_eq, List.setIfInBounds_toArray, List.set_cons_zero, List.set_cons_succ, List.drop, List.length]
      obtain ⟨hf, hr⟩ := hC1
      have s1 := hf.size; have z1 := (hf.cell (p := ⟨gi, 1, none⟩) hlg hng).trans hq1; have y0 := (hf.cell (p := ⟨b, o + a, none⟩) hbw hnb).trans ha0c; have y1 := (hf.cell (p := ⟨b, o + (a + 1), none⟩) hbw hnb).trans ha1c
      go_wp2
      exact FR.Flow.post_det ⟨hf, hr⟩ (AppZF.refl _) rfl rfl
    intro w1 hC1
    simp only [FR.Flow.fill, FR.Flow.after, FR.Flow.at_, List.nil_append, List.cons_append, List.getD_cons_zero, List.getD_cons_succ, FR.det, forall_eq, List.setIfInBounds_toArray, List.set_cons_zero, List.set_cons_succ, List.drop, List.length]
    rintro _ - _ - _ - _ ⟨A9, c9, rfl, hA9⟩
    obtain ⟨hf, hr⟩ := hC1
    obtain ⟨ys, hz9, hA9⟩ := hA9
    obtain ⟨x, rfl, hxp, hxr, hxs, hxo, hxn, hxm, hxc, hxcm⟩ := hz9
    have KEY := ImSt.app (g := gi) HS5.out hf hA9.row hxo (hf.cell (p := ⟨gi, 0, none⟩) hlg hng) hng
    obtain ⟨hblk, hst9, hfr9⟩ := KEY
    have k9 := hblk.cell
    have l9 := hblk.lt
    have f9 := hblk.free
    have HS9 := Lib.hid hst9
    have HF9 := Lib.hid (hfr.out.trans hfr9)
    have HK := Lib.hid (HSN.out x hxp hxr hxs)
    have HSM := Lib.hid (hsm.out.snoc (g := x) ⟨by rw [hxs, hxm]; exact hT, by rw [hxm]; omega, hxc, hxcm⟩)
    clear hA9 hxo hxn hblk hst9 hfr9 hq0 hq1 hr hf HO1 hc3 ha2c ha0c ha1c
    go_wp2
    go_roundw
    case rel => exact ⟨j + 1, a + (3 + m), _, _, _, by omega, by go_num, by go_num, by omega, by omega, HK, HSM, HS9, HF9⟩
    case measure => simp [intOf]; omega
end Go.Proofs.YtdgjcjhdclihpaaDoor
