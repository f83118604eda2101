/- Contract of ringref4.TraceOf. -/
import Derived.Test.YtjdbclcafjlohaaTrE
import Derived.OwnWalk
namespace Go.Proofs.Ytjdbclcafjlohaa
open Go.RowKit
set_option maxHeartbeats 400000
set_option linter.unusedVariables false
set_option linter.unusedSimpArgs false
/-- The first k records of the row stand. -/
def TofL (xs : List Int) (k : Nat) (L : List Value) : Prop := ∀ j, j < k → ∀ t, t < 4 → L[j * 4 + t]? = (recAt xs j).cells[t]?
def TofRel (w : World) (xs : List Int) (q k : Nat) (wr : World) : Prop :=
  (∀ j, j < k → (recAt xs j).err = 0) ∧ (∃ L, wr.ownsRow w.heap.size 24 4 (.slice (some ⟨w.heap.size, 0, none⟩) q q) q L ∧ TofL xs k L) ∧ Below w.heap.size w wr
theorem TofL.all {xs : List Int} {q : Nat} {L : List Value} (h : TofL xs q L) (hl : L.length = q * 4) : L = (recs xs q).flatMap Rc.cells := by
  apply List.ext_getElem?
  intro i
  by_cases hi : i < q * 4
  · have h1 := h (i / 4) (by omega) (i % 4) (by omega)
    have h2 := flat_at (recs xs q) (i / 4) (i % 4) (recAt xs (i / 4)) (by unfold recs; rw [List.getElem?_map, List.getElem?_range (by omega)]; rfl) (by omega)
    rw [show i / 4 * 4 + i % 4 = i by omega] at h1 h2
    rw [h1, h2]
  · rw [List.getElem?_eq_none (by omega), List.getElem?_eq_none]
    have : ∀ rs : List Rc, (rs.flatMap Rc.cells).length = rs.length * 4 := by
      intro rs
      induction rs with
      | nil => rfl
      | cons a rs ih => rw [List.flatMap_cons, List.length_append, ih]; simp [Rc.cells]; omega
    rw [this, recs_len]
    omega
theorem TofL.next {xs : List Int} {k q : Nat} {L : List Value} (h : TofL xs k L) (hl : L.length = q * 4) (hk : k < q) {r : Rc} (hr : recAt xs k = r) :
    TofL xs (k + 1) ((((L.set (k * 4) (.int .i64 r.k)).set (k * 4 + 1) (.int .i64 r.c)).set (k * 4 + 2) (.int .i64 r.t)).set (k * 4 + 3) (.int .i64 r.o)) := by
  intro j hj t ht
  by_cases hjk : j < k
  · rw [List.getElem?_set_ne (by omega), List.getElem?_set_ne (by omega), List.getElem?_set_ne (by omega), List.getElem?_set_ne (by omega)]
    exact h j hjk t ht
  · obtain rfl : j = k := by omega
    rw [hr]
    have : t = 0 ∨ t = 1 ∨ t = 2 ∨ t = 3 := by omega
    rcases this with rfl | rfl | rfl | rfl
    · rw [List.getElem?_set_ne (by omega), List.getElem?_set_ne (by omega), List.getElem?_set_ne (by omega), Nat.add_zero, List.getElem?_set_self (by omega)]; rfl
    · rw [List.getElem?_set_ne (by omega), List.getElem?_set_ne (by omega), List.getElem?_set_self (by simp; omega)]; rfl
    · rw [List.getElem?_set_ne (by omega), List.getElem?_set_self (by simp; omega)]; rfl
    · rw [List.getElem?_set_self (by simp; omega)]; rfl
theorem own_set4 {w : World} {base g q cap : Nat} {e : TypeId} {L : List Value} (h : w.ownsRow base e 4 (.slice (some ⟨g, 0, none⟩) q cap) q L) (i : Nat) (a b c d : Value) :
    (set4 w g i a b c d).ownsRow base e 4 (.slice (some ⟨g, 0, none⟩) q cap) q ((((L.set i a).set (i + 1) b).set (i + 2) c).set (i + 3) d) :=
  ((((h.stored i a).1.stored (i + 1) b).1.stored (i + 2) c).1.stored (i + 3) d).1
theorem good_next {p : Nat → Prop} {k : Nat} (h : ∀ j, j < k → p j) (hk : p k) : ∀ j, j < k + 1 → p j := fun j hj => by
  rcases Nat.lt_or_ge j k with hjk | hjk
  · exact h j hjk
  · obtain rfl : j = k := by omega
    exact hk
theorem own_some {w : World} {base g q cap : Nat} {e : TypeId} {L : List Value} (h : w.ownsRow base e 4 (.slice (some ⟨g, 0, none⟩) q cap) q L) {i : Nat} (hi : i < q * 4) : ∃ u, w.cell? ⟨g, i, none⟩ = some u := by
  rw [h.cellAt i hi]
  exact ⟨_, List.getElem?_eq_getElem (by rw [h.1]; exact hi)⟩
set_option maxHeartbeats 4000000 in
set_option maxRecDepth 100000 in
theorem traceOf_any (A : Option Addr) (n c : Nat) (xs : List Int) (w : World) (B : Nat) (h : RB w B A n xs) (hB : B ≤ w.heap.size) (hn : n ≤ 9223372036854775807) :
    Calls Try.prog 18 #[.slice A n c] w (DecPost w xs) := by
  have HL := Lib.hid h.len
  by_cases hbig : 1200 < n
  · go_enter Try.func18, Try.ntmps18
    go_wp2
    go_ret2
    exact .bad (recsErr_big (by rw [HL.out]; exact hbig)) (by decide) (Below.refl _ _)
  by_cases hodd : n % 3 ≠ 0
  · have h3 : (0 : Int) < (n : Int) % 3 := by omega
    go_enter Try.func18, Try.ntmps18
    go_wp2
    go_ret2
    exact .bad (recsErr_odd (by rw [HL.out]; exact hbig) (by rw [HL.out]; exact hodd)) (by decide) (Below.refl _ _)
  obtain ⟨q, rfl⟩ : ∃ q, n = 3 * q := ⟨n / 3, by omega⟩
  clear hodd
  have hq : q ≤ 400 := by omega
  have h3 : ((3 * q : Nat) : Int) % 3 = 0 := by omega
  have hq3 : ((3 * q : Nat) : Int) / 3 = q := by omega
  generalize hN : 3 * q = n at *
  have HN := Lib.hid hN
  clear hN
  obtain ⟨i0, hi0, hz0, hz1, hz2⟩ := info_parts recinfo
  go_enter Try.func18, Try.ntmps18
  go_wp2_with (refine wpList_make_full _ rfl (.tmp 16) (.tmp 16) 22 rfl w.heap.size 24 i0 _ 4 Try.underlying22 hi0 hz0 hz1 .i64 .i64 _ _ q rfl rfl rfl rfl (by rw [hz2]; omega) (by simp only [maxLen]; omega) (Nat.le_refl _) ?_; intro w1 hown1 hgr1)
  have hrel0 : TofRel w xs q 0 w1 := ⟨fun j hj => by omega, ⟨_, hown1, fun j hj => by omega⟩, (Below.refl _ _).grown hgr1 (Nat.le_refl _) (by simp)⟩
  clear hown1 hgr1
  go_loopw [20] (fun i wr => ∃ k : Nat, k ≤ q ∧ i = .int .i64 k ∧ TofRel w xs q k wr) (fun i _ => q - (intOf i).toNat)
  case atStart => exact ⟨0, by omega, rfl, hrel0⟩
  case round =>
    obtain ⟨k, hk, rfl, hgood, ⟨L, hown, hL⟩, hbw⟩ := hrel
    clear hrel0
    have HG := Lib.hid hgood
    have HLL := Lib.hid hL
    clear hgood hL
    by_cases hlt : k < q
    · have hh := h.below' hbw hB
      obtain ⟨b, o, rfl, hb, c0, -⟩ := hh.at_ (show 3 * k < n by rw [← HN.out]; omega)
      have c1 := hh.cells (3 * k + 1) (by rw [← HN.out]; omega)
      have c2 := hh.cells (3 * k + 2) (by rw [← HN.out]; omega)
      have r0 := h.rng (3 * k)
      have r1 := h.rng (3 * k + 1)
      have r2 := h.rng (3 * k + 2)
      obtain ⟨r, hr⟩ : ∃ r, recAt xs k = r := ⟨_, rfl⟩
      have e0 : r.k = xs.getD (3 * k) 0 / 4 := by rw [← hr]; rfl
      have e1 : r.c = xs.getD (3 * k) 0 % 4 := by rw [← hr]; rfl
      have e2 : r.t = xs.getD (3 * k + 1) 0 := by rw [← hr]; rfl
      have e3 : r.o = xs.getD (3 * k + 2) 0 := by rw [← hr]; rfl
      have HR := Lib.hid hr
      clear hr
      generalize xs.getD (3 * k) 0 = y0 at *
      generalize xs.getD (3 * k + 1) 0 = y1 at *
      generalize xs.getD (3 * k + 2) 0 = y2 at *
      have hin : 3 * k + 2 < n := by rw [← HN.out]; omega
      have hi1 : 3 * (k : Int) < n := by omega
      have hbwr : b < wr.heap.size := by have := hbw.size; omega
      have hi2 : 3 * (k : Int) + 1 < n := by omega
      have hi3 : 3 * (k : Int) + 2 < n := by omega
      go_wp2_with fail
      refine wp_region_walk (fun w' => Below wr.heap.size wr w') [[], [], [], [], [(26, 3)], [(25, 2), (27, 4)], [(28, 5)], [(29, 6)], [(30, 7)], [], [], [(33, 10)], [(32, 9), (34, 11)], [(35, 12)], [(36, 13)], [(37, 14)], [], [], [(40, 17)], [(41, 18)], [(39, 16), (42, 19)], [(43, 20)], [(44, 21)], [], [], [(47, 24)], [(48, 25)], [(46, 23), (49, 26)], [(50, 27)], [(51, 28)], [(31, 8), (38, 15), (45, 22), (52, 29)], [(23, 0), (24, 1)]]
        [(23, 0), (24, 1), (25, 2), (26, 3), (27, 4), (28, 5), (29, 6), (30, 7), (31, 8), (32, 9), (33, 10), (34, 11), (35, 12), (36, 13), (37, 14), (38, 15), (39, 16), (40, 17), (41, 18), (42, 19), (43, 20), (44, 21), (45, 22), (46, 23), (47, 24), (48, 25), (49, 26), (50, 27), (51, 28), (52, 29), (53, 30), (54, 31)] (by kernel_rfl) (by kernel_rfl) (by kernel_rfl) (Below.refl _ _).drew ?_
      apply Flow.det_step
      · go_light
        intro w1 hC1
        simp only [Flow.fill, Flow.after, Flow.at_, List.nil_append, List.cons_append, List.getD_cons_zero, List.getD_cons_succ, det, forall_eq, List.setIfInBounds_toArray, List.set_cons_zero, List.set_cons_succ, List.drop, List.length]
        have hb3 := hC1
        have hs3 := hb3.size; have k0 := (hb3.cell (p := ⟨b, o + 3 * k, none⟩) (by show b < _; omega)).trans c0; have k1 := (hb3.cell (p := ⟨b, o + (3 * k + 1), none⟩) (by show b < _; omega)).trans c1; have k2 := (hb3.cell (p := ⟨b, o + (3 * k + 2), none⟩) (by show b < _; omega)).trans c2
        go_wp2
        exact Flow.post_det hb3 (Grow.refl _) rfl rfl
      apply Flow.det_step
      · go_light
        intro w1 hC1
        simp only [Flow.fill, Flow.after, Flow.at_, List.nil_append, List.cons_append, List.getD_cons_zero, List.getD_cons_succ, det, forall_eq, List.setIfInBounds_toArray, List.set_cons_zero, List.set_cons_succ, List.drop, List.length]
        have hb3 := hC1
        have hs3 := hb3.size; have k0 := (hb3.cell (p := ⟨b, o + 3 * k, none⟩) (by show b < _; omega)).trans c0; have k1 := (hb3.cell (p := ⟨b, o + (3 * k + 1), none⟩) (by show b < _; omega)).trans c1; have k2 := (hb3.cell (p := ⟨b, o + (3 * k + 2), none⟩) (by show b < _; omega)).trans c2
        go_wp2
        exact Flow.post_det hb3 (Grow.refl _) rfl rfl
      apply Flow.det_step
      · go_light
        intro w1 hC1
        simp only [Flow.fill, Flow.after, Flow.at_, List.nil_append, List.cons_append, List.getD_cons_zero, List.getD_cons_succ, det, forall_eq, List.setIfInBounds_toArray, List.set_cons_zero, List.set_cons_succ, List.drop, List.length]
        have hb3 := hC1
        have hs3 := hb3.size; have k0 := (hb3.cell (p := ⟨b, o + 3 * k, none⟩) (by show b < _; omega)).trans c0; have k1 := (hb3.cell (p := ⟨b, o + (3 * k + 1), none⟩) (by show b < _; omega)).trans c1; have k2 := (hb3.cell (p := ⟨b, o + (3 * k + 2), none⟩) (by show b < _; omega)).trans c2
        go_wp2
        exact Flow.post_det hb3 (Grow.refl _) rfl rfl
      apply Flow.det_step
      · go_light
        intro w1 hC1
        simp only [Flow.fill, Flow.after, Flow.at_, List.nil_append, List.cons_append, List.getD_cons_zero, List.getD_cons_succ, det, forall_eq, List.setIfInBounds_toArray, List.set_cons_zero, List.set_cons_succ, List.drop, List.length]
        have hb3 := hC1
        have hs3 := hb3.size; have k0 := (hb3.cell (p := ⟨b, o + 3 * k, none⟩) (by show b < _; omega)).trans c0; have k1 := (hb3.cell (p := ⟨b, o + (3 * k + 1), none⟩) (by show b < _; omega)).trans c1; have k2 := (hb3.cell (p := ⟨b, o + (3 * k + 2), none⟩) (by show b < _; omega)).trans c2
        go_wp2
        exact Flow.post_det hb3 (Grow.refl _) rfl rfl
      apply Flow.det_step
      · go_light
        intro w1 hC1
        simp only [Flow.fill, Flow.after, Flow.at_, List.nil_append, List.cons_append, List.getD_cons_zero, List.getD_cons_succ, det, forall_eq, List.setIfInBounds_toArray, List.set_cons_zero, List.set_cons_succ, List.drop, List.length]
        have hb3 := hC1
        have hs3 := hb3.size; have k0 := (hb3.cell (p := ⟨b, o + 3 * k, none⟩) (by show b < _; omega)).trans c0; have k1 := (hb3.cell (p := ⟨b, o + (3 * k + 1), none⟩) (by show b < _; omega)).trans c1; have k2 := (hb3.cell (p := ⟨b, o + (3 * k + 2), none⟩) (by show b < _; omega)).trans c2
        go_wp2
        exact Flow.post_det hb3 (Grow.refl _) rfl rfl
      apply Flow.det_step
      · go_light
        intro w1 hC1
        simp only [Flow.fill, Flow.after, Flow.at_, List.nil_append, List.cons_append, List.getD_cons_zero, List.getD_cons_succ, det, forall_eq, List.setIfInBounds_toArray, List.set_cons_zero, List.set_cons_succ, List.drop, List.length]
        have hb3 := hC1
        have hs3 := hb3.size; have k0 := (hb3.cell (p := ⟨b, o + 3 * k, none⟩) (by show b < _; omega)).trans c0; have k1 := (hb3.cell (p := ⟨b, o + (3 * k + 1), none⟩) (by show b < _; omega)).trans c1; have k2 := (hb3.cell (p := ⟨b, o + (3 * k + 2), none⟩) (by show b < _; omega)).trans c2
        go_wp2
        exact Flow.post_det hb3 (Grow.refl _) rfl rfl
      apply Flow.det_step
      · go_light
        intro w1 hC1
        simp only [Flow.fill, Flow.after, Flow.at_, List.nil_append, List.cons_append, List.getD_cons_zero, List.getD_cons_succ, det, forall_eq, List.setIfInBounds_toArray, List.set_cons_zero, List.set_cons_succ, List.drop, List.length]
        have hb3 := hC1
        have hs3 := hb3.size; have k0 := (hb3.cell (p := ⟨b, o + 3 * k, none⟩) (by show b < _; omega)).trans c0; have k1 := (hb3.cell (p := ⟨b, o + (3 * k + 1), none⟩) (by show b < _; omega)).trans c1; have k2 := (hb3.cell (p := ⟨b, o + (3 * k + 2), none⟩) (by show b < _; omega)).trans c2
        go_wp2
        exact Flow.post_det hb3 (Grow.refl _) rfl rfl
      apply Flow.det_step
      · go_light
        intro w1 hC1
        simp only [Flow.fill, Flow.after, Flow.at_, List.nil_append, List.cons_append, List.getD_cons_zero, List.getD_cons_succ, det, forall_eq, List.setIfInBounds_toArray, List.set_cons_zero, List.set_cons_succ, List.drop, List.length]
        have hb3 := hC1
        have hs3 := hb3.size; have k0 := (hb3.cell (p := ⟨b, o + 3 * k, none⟩) (by show b < _; omega)).trans c0; have k1 := (hb3.cell (p := ⟨b, o + (3 * k + 1), none⟩) (by show b < _; omega)).trans c1; have k2 := (hb3.cell (p := ⟨b, o + (3 * k + 2), none⟩) (by show b < _; omega)).trans c2
        go_wp2
        exact Flow.post_det hb3 (Grow.refl _) rfl rfl
      apply Flow.det_step
      · go_light
        intro w1 hC1
        simp only [Flow.fill, Flow.after, Flow.at_, List.nil_append, List.cons_append, List.getD_cons_zero, List.getD_cons_succ, det, forall_eq, List.setIfInBounds_toArray, List.set_cons_zero, List.set_cons_succ, List.drop, List.length]
        have hb3 := hC1
        have hs3 := hb3.size; have k0 := (hb3.cell (p := ⟨b, o + 3 * k, none⟩) (by show b < _; omega)).trans c0; have k1 := (hb3.cell (p := ⟨b, o + (3 * k + 1), none⟩) (by show b < _; omega)).trans c1; have k2 := (hb3.cell (p := ⟨b, o + (3 * k + 2), none⟩) (by show b < _; omega)).trans c2
        go_wp2
        exact Flow.post_det hb3 (Grow.refl _) rfl rfl
      apply Flow.det_step
      · go_light
        intro w1 hC1
        simp only [Flow.fill, Flow.after, Flow.at_, List.nil_append, List.cons_append, List.getD_cons_zero, List.getD_cons_succ, det, forall_eq, List.setIfInBounds_toArray, List.set_cons_zero, List.set_cons_succ, List.drop, List.length]
        have hb3 := hC1
        have hs3 := hb3.size; have k0 := (hb3.cell (p := ⟨b, o + 3 * k, none⟩) (by show b < _; omega)).trans c0; have k1 := (hb3.cell (p := ⟨b, o + (3 * k + 1), none⟩) (by show b < _; omega)).trans c1; have k2 := (hb3.cell (p := ⟨b, o + (3 * k + 2), none⟩) (by show b < _; omega)).trans c2
        go_wp2
        exact Flow.post_det hb3 (Grow.refl _) rfl rfl
      apply Flow.det_step
      · go_light
        intro w1 hC1
        simp only [Flow.fill, Flow.after, Flow.at_, List.nil_append, List.cons_append, List.getD_cons_zero, List.getD_cons_succ, det, forall_eq, List.setIfInBounds_toArray, List.set_cons_zero, List.set_cons_succ, List.drop, List.length]
        have hb3 := hC1
        have hs3 := hb3.size; have k0 := (hb3.cell (p := ⟨b, o + 3 * k, none⟩) (by show b < _; omega)).trans c0; have k1 := (hb3.cell (p := ⟨b, o + (3 * k + 1), none⟩) (by show b < _; omega)).trans c1; have k2 := (hb3.cell (p := ⟨b, o + (3 * k + 2), none⟩) (by show b < _; omega)).trans c2
        go_wp2
        exact Flow.post_det hb3 (Grow.refl _) rfl rfl
      apply Flow.det_step
      · go_light
        intro w1 hC1
        simp only [Flow.fill, Flow.after, Flow.at_, List.nil_append, List.cons_append, List.getD_cons_zero, List.getD_cons_succ, det, forall_eq, List.setIfInBounds_toArray, List.set_cons_zero, List.set_cons_succ, List.drop, List.length]
        have hb3 := hC1
        have hs3 := hb3.size; have k0 := (hb3.cell (p := ⟨b, o + 3 * k, none⟩) (by show b < _; omega)).trans c0; have k1 := (hb3.cell (p := ⟨b, o + (3 * k + 1), none⟩) (by show b < _; omega)).trans c1; have k2 := (hb3.cell (p := ⟨b, o + (3 * k + 2), none⟩) (by show b < _; omega)).trans c2
        go_wp2
        exact Flow.post_det hb3 (Grow.refl _) rfl rfl
      apply Flow.det_step
      · go_light
        intro w1 hC1
        simp only [Flow.fill, Flow.after, Flow.at_, List.nil_append, List.cons_append, List.getD_cons_zero, List.getD_cons_succ, det, forall_eq, List.setIfInBounds_toArray, List.set_cons_zero, List.set_cons_succ, List.drop, List.length]
        have hb3 := hC1
        have hs3 := hb3.size; have k0 := (hb3.cell (p := ⟨b, o + 3 * k, none⟩) (by show b < _; omega)).trans c0; have k1 := (hb3.cell (p := ⟨b, o + (3 * k + 1), none⟩) (by show b < _; omega)).trans c1; have k2 := (hb3.cell (p := ⟨b, o + (3 * k + 2), none⟩) (by show b < _; omega)).trans c2
        go_wp2
        exact Flow.post_det hb3 (Grow.refl _) rfl rfl
      apply Flow.det_step
      · go_light
        intro w1 hC1
        simp only [Flow.fill, Flow.after, Flow.at_, List.nil_append, List.cons_append, List.getD_cons_zero, List.getD_cons_succ, det, forall_eq, List.setIfInBounds_toArray, List.set_cons_zero, List.set_cons_succ, List.drop, List.length]
        have hb3 := hC1
        have hs3 := hb3.size; have k0 := (hb3.cell (p := ⟨b, o + 3 * k, none⟩) (by show b < _; omega)).trans c0; have k1 := (hb3.cell (p := ⟨b, o + (3 * k + 1), none⟩) (by show b < _; omega)).trans c1; have k2 := (hb3.cell (p := ⟨b, o + (3 * k + 2), none⟩) (by show b < _; omega)).trans c2
        go_wp2
        exact Flow.post_det hb3 (Grow.refl _) rfl rfl
      apply Flow.det_step
      · go_light
        intro w1 hC1
        simp only [Flow.fill, Flow.after, Flow.at_, List.nil_append, List.cons_append, List.getD_cons_zero, List.getD_cons_succ, det, forall_eq, List.setIfInBounds_toArray, List.set_cons_zero, List.set_cons_succ, List.drop, List.length]
        have hb3 := hC1
        have hs3 := hb3.size; have k0 := (hb3.cell (p := ⟨b, o + 3 * k, none⟩) (by show b < _; omega)).trans c0; have k1 := (hb3.cell (p := ⟨b, o + (3 * k + 1), none⟩) (by show b < _; omega)).trans c1; have k2 := (hb3.cell (p := ⟨b, o + (3 * k + 2), none⟩) (by show b < _; omega)).trans c2
        go_wp2
        exact Flow.post_det hb3 (Grow.refl _) rfl rfl
      apply Flow.det_step
      · go_light
        intro w1 hC1
        simp only [Flow.fill, Flow.after, Flow.at_, List.nil_append, List.cons_append, List.getD_cons_zero, List.getD_cons_succ, det, forall_eq, List.setIfInBounds_toArray, List.set_cons_zero, List.set_cons_succ, List.drop, List.length]
        have hb3 := hC1
        have hs3 := hb3.size; have k0 := (hb3.cell (p := ⟨b, o + 3 * k, none⟩) (by show b < _; omega)).trans c0; have k1 := (hb3.cell (p := ⟨b, o + (3 * k + 1), none⟩) (by show b < _; omega)).trans c1; have k2 := (hb3.cell (p := ⟨b, o + (3 * k + 2), none⟩) (by show b < _; omega)).trans c2
        go_wp2
        exact Flow.post_det hb3 (Grow.refl _) rfl rfl
      apply Flow.det_step
      · go_light
        intro w1 hC1
        simp only [Flow.fill, Flow.after, Flow.at_, List.nil_append, List.cons_append, List.getD_cons_zero, List.getD_cons_succ, det, forall_eq, List.setIfInBounds_toArray, List.set_cons_zero, List.set_cons_succ, List.drop, List.length]
        have hb3 := hC1
        have hs3 := hb3.size; have k0 := (hb3.cell (p := ⟨b, o + 3 * k, none⟩) (by show b < _; omega)).trans c0; have k1 := (hb3.cell (p := ⟨b, o + (3 * k + 1), none⟩) (by show b < _; omega)).trans c1; have k2 := (hb3.cell (p := ⟨b, o + (3 * k + 2), none⟩) (by show b < _; omega)).trans c2
        go_wp2
        exact Flow.post_det hb3 (Grow.refl _) rfl rfl
      apply Flow.det_step
      · go_light
        intro w1 hC1
        simp only [Flow.fill, Flow.after, Flow.at_, List.nil_append, List.cons_append, List.getD_cons_zero, List.getD_cons_succ, det, forall_eq, List.setIfInBounds_toArray, List.set_cons_zero, List.set_cons_succ, List.drop, List.length]
        have hb3 := hC1
        have hs3 := hb3.size; have k0 := (hb3.cell (p := ⟨b, o + 3 * k, none⟩) (by show b < _; omega)).trans c0; have k1 := (hb3.cell (p := ⟨b, o + (3 * k + 1), none⟩) (by show b < _; omega)).trans c1; have k2 := (hb3.cell (p := ⟨b, o + (3 * k + 2), none⟩) (by show b < _; omega)).trans c2
        go_wp2
        exact Flow.post_det hb3 (Grow.refl _) rfl rfl
      apply Flow.det_step
      · go_light
        intro w1 hC1
        simp only [Flow.fill, Flow.after, Flow.at_, List.nil_append, List.cons_append, List.getD_cons_zero, List.getD_cons_succ, det, forall_eq, List.setIfInBounds_toArray, List.set_cons_zero, List.set_cons_succ, List.drop, List.length]
        have hb3 := hC1
        have hs3 := hb3.size; have k0 := (hb3.cell (p := ⟨b, o + 3 * k, none⟩) (by show b < _; omega)).trans c0; have k1 := (hb3.cell (p := ⟨b, o + (3 * k + 1), none⟩) (by show b < _; omega)).trans c1; have k2 := (hb3.cell (p := ⟨b, o + (3 * k + 2), none⟩) (by show b < _; omega)).trans c2
        go_wp2
        exact Flow.post_det hb3 (Grow.refl _) rfl rfl
      apply Flow.det_step
      · go_light
        intro w1 hC1
        simp only [Flow.fill, Flow.after, Flow.at_, List.nil_append, List.cons_append, List.getD_cons_zero, List.getD_cons_succ, det, forall_eq, List.setIfInBounds_toArray, List.set_cons_zero, List.set_cons_succ, List.drop, List.length]
        have hb3 := hC1
        have hs3 := hb3.size; have k0 := (hb3.cell (p := ⟨b, o + 3 * k, none⟩) (by show b < _; omega)).trans c0; have k1 := (hb3.cell (p := ⟨b, o + (3 * k + 1), none⟩) (by show b < _; omega)).trans c1; have k2 := (hb3.cell (p := ⟨b, o + (3 * k + 2), none⟩) (by show b < _; omega)).trans c2
        go_wp2
        exact Flow.post_det hb3 (Grow.refl _) rfl rfl
      apply Flow.det_step
      · go_light
        intro w1 hC1
        simp only [Flow.fill, Flow.after, Flow.at_, List.nil_append, List.cons_append, List.getD_cons_zero, List.getD_cons_succ, det, forall_eq, List.setIfInBounds_toArray, List.set_cons_zero, List.set_cons_succ, List.drop, List.length]
        have hb3 := hC1
        have hs3 := hb3.size; have k0 := (hb3.cell (p := ⟨b, o + 3 * k, none⟩) (by show b < _; omega)).trans c0; have k1 := (hb3.cell (p := ⟨b, o + (3 * k + 1), none⟩) (by show b < _; omega)).trans c1; have k2 := (hb3.cell (p := ⟨b, o + (3 * k + 2), none⟩) (by show b < _; omega)).trans c2
        go_wp2
        exact Flow.post_det hb3 (Grow.refl _) rfl rfl
      apply Flow.det_step
      · go_light
        intro w1 hC1
        simp only [Flow.fill, Flow.after, Flow.at_, List.nil_append, List.cons_append, List.getD_cons_zero, List.getD_cons_succ, det, forall_eq, List.setIfInBounds_toArray, List.set_cons_zero, List.set_cons_succ, List.drop, List.length]
        have hb3 := hC1
        have hs3 := hb3.size; have k0 := (hb3.cell (p := ⟨b, o + 3 * k, none⟩) (by show b < _; omega)).trans c0; have k1 := (hb3.cell (p := ⟨b, o + (3 * k + 1), none⟩) (by show b < _; omega)).trans c1; have k2 := (hb3.cell (p := ⟨b, o + (3 * k + 2), none⟩) (by show b < _; omega)).trans c2
        go_wp2
        exact Flow.post_det hb3 (Grow.refl _) rfl rfl
      apply Flow.det_step
      · go_light
        intro w1 hC1
        simp only [Flow.fill, Flow.after, Flow.at_, List.nil_append, List.cons_append, List.getD_cons_zero, List.getD_cons_succ, det, forall_eq, List.setIfInBounds_toArray, List.set_cons_zero, List.set_cons_succ, List.drop, List.length]
        have hb3 := hC1
        have hs3 := hb3.size; have k0 := (hb3.cell (p := ⟨b, o + 3 * k, none⟩) (by show b < _; omega)).trans c0; have k1 := (hb3.cell (p := ⟨b, o + (3 * k + 1), none⟩) (by show b < _; omega)).trans c1; have k2 := (hb3.cell (p := ⟨b, o + (3 * k + 2), none⟩) (by show b < _; omega)).trans c2
        go_wp2
        exact Flow.post_det hb3 (Grow.refl _) rfl rfl
      apply Flow.det_step
      · go_light
        intro w1 hC1
        simp only [Flow.fill, Flow.after, Flow.at_, List.nil_append, List.cons_append, List.getD_cons_zero, List.getD_cons_succ, det, forall_eq, List.setIfInBounds_toArray, List.set_cons_zero, List.set_cons_succ, List.drop, List.length]
        have hb3 := hC1
        have hs3 := hb3.size; have k0 := (hb3.cell (p := ⟨b, o + 3 * k, none⟩) (by show b < _; omega)).trans c0; have k1 := (hb3.cell (p := ⟨b, o + (3 * k + 1), none⟩) (by show b < _; omega)).trans c1; have k2 := (hb3.cell (p := ⟨b, o + (3 * k + 2), none⟩) (by show b < _; omega)).trans c2
        go_wp2
        exact Flow.post_det hb3 (Grow.refl _) rfl rfl
      apply Flow.det_step
      · go_light
        intro w1 hC1
        simp only [Flow.fill, Flow.after, Flow.at_, List.nil_append, List.cons_append, List.getD_cons_zero, List.getD_cons_succ, det, forall_eq, List.setIfInBounds_toArray, List.set_cons_zero, List.set_cons_succ, List.drop, List.length]
        have hb3 := hC1
        have hs3 := hb3.size; have k0 := (hb3.cell (p := ⟨b, o + 3 * k, none⟩) (by show b < _; omega)).trans c0; have k1 := (hb3.cell (p := ⟨b, o + (3 * k + 1), none⟩) (by show b < _; omega)).trans c1; have k2 := (hb3.cell (p := ⟨b, o + (3 * k + 2), none⟩) (by show b < _; omega)).trans c2
        go_wp2
        exact Flow.post_det hb3 (Grow.refl _) rfl rfl
      apply Flow.det_step
      · go_light
        intro w1 hC1
        simp only [Flow.fill, Flow.after, Flow.at_, List.nil_append, List.cons_append, List.getD_cons_zero, List.getD_cons_succ, det, forall_eq, List.setIfInBounds_toArray, List.set_cons_zero, List.set_cons_succ, List.drop, List.length]
        have hb3 := hC1
        have hs3 := hb3.size; have k0 := (hb3.cell (p := ⟨b, o + 3 * k, none⟩) (by show b < _; omega)).trans c0; have k1 := (hb3.cell (p := ⟨b, o + (3 * k + 1), none⟩) (by show b < _; omega)).trans c1; have k2 := (hb3.cell (p := ⟨b, o + (3 * k + 2), none⟩) (by show b < _; omega)).trans c2
        go_wp2
        exact Flow.post_det hb3 (Grow.refl _) rfl rfl
      apply Flow.det_step
      · go_light
        intro w1 hC1
        simp only [Flow.fill, Flow.after, Flow.at_, List.nil_append, List.cons_append, List.getD_cons_zero, List.getD_cons_succ, det, forall_eq, List.setIfInBounds_toArray, List.set_cons_zero, List.set_cons_succ, List.drop, List.length]
        have hb3 := hC1
        have hs3 := hb3.size; have k0 := (hb3.cell (p := ⟨b, o + 3 * k, none⟩) (by show b < _; omega)).trans c0; have k1 := (hb3.cell (p := ⟨b, o + (3 * k + 1), none⟩) (by show b < _; omega)).trans c1; have k2 := (hb3.cell (p := ⟨b, o + (3 * k + 2), none⟩) (by show b < _; omega)).trans c2
        go_wp2
        exact Flow.post_det hb3 (Grow.refl _) rfl rfl
      apply Flow.det_step
      · go_light
        intro w1 hC1
        simp only [Flow.fill, Flow.after, Flow.at_, List.nil_append, List.cons_append, List.getD_cons_zero, List.getD_cons_succ, det, forall_eq, List.setIfInBounds_toArray, List.set_cons_zero, List.set_cons_succ, List.drop, List.length]
        have hb3 := hC1
        have hs3 := hb3.size; have k0 := (hb3.cell (p := ⟨b, o + 3 * k, none⟩) (by show b < _; omega)).trans c0; have k1 := (hb3.cell (p := ⟨b, o + (3 * k + 1), none⟩) (by show b < _; omega)).trans c1; have k2 := (hb3.cell (p := ⟨b, o + (3 * k + 2), none⟩) (by show b < _; omega)).trans c2
        go_wp2
        exact Flow.post_det hb3 (Grow.refl _) rfl rfl
      apply Flow.det_step
      · go_light
        intro w1 hC1
        simp only [Flow.fill, Flow.after, Flow.at_, List.nil_append, List.cons_append, List.getD_cons_zero, List.getD_cons_succ, det, forall_eq, List.setIfInBounds_toArray, List.set_cons_zero, List.set_cons_succ, List.drop, List.length]
        have hb3 := hC1
        have hs3 := hb3.size; have k0 := (hb3.cell (p := ⟨b, o + 3 * k, none⟩) (by show b < _; omega)).trans c0; have k1 := (hb3.cell (p := ⟨b, o + (3 * k + 1), none⟩) (by show b < _; omega)).trans c1; have k2 := (hb3.cell (p := ⟨b, o + (3 * k + 2), none⟩) (by show b < _; omega)).trans c2
        go_wp2
        exact Flow.post_det hb3 (Grow.refl _) rfl rfl
      apply Flow.det_step
      · go_light
        intro w1 hC1
        simp only [Flow.fill, Flow.after, Flow.at_, List.nil_append, List.cons_append, List.getD_cons_zero, List.getD_cons_succ, det, forall_eq, List.setIfInBounds_toArray, List.set_cons_zero, List.set_cons_succ, List.drop, List.length]
        have hb3 := hC1
        have hs3 := hb3.size; have k0 := (hb3.cell (p := ⟨b, o + 3 * k, none⟩) (by show b < _; omega)).trans c0; have k1 := (hb3.cell (p := ⟨b, o + (3 * k + 1), none⟩) (by show b < _; omega)).trans c1; have k2 := (hb3.cell (p := ⟨b, o + (3 * k + 2), none⟩) (by show b < _; omega)).trans c2
        go_wp2
        exact Flow.post_det hb3 (Grow.refl _) rfl rfl
      apply Flow.det_step
      · go_light
        intro w1 hC1
        simp only [Flow.fill, Flow.after, Flow.at_, List.nil_append, List.cons_append, List.getD_cons_zero, List.getD_cons_succ, det, forall_eq, List.setIfInBounds_toArray, List.set_cons_zero, List.set_cons_succ, List.drop, List.length]
        have hb3 := hC1
        have hs3 := hb3.size; have k0 := (hb3.cell (p := ⟨b, o + 3 * k, none⟩) (by show b < _; omega)).trans c0; have k1 := (hb3.cell (p := ⟨b, o + (3 * k + 1), none⟩) (by show b < _; omega)).trans c1; have k2 := (hb3.cell (p := ⟨b, o + (3 * k + 2), none⟩) (by show b < _; omega)).trans c2
        go_wp2
        exact Flow.post_det hb3 (Grow.refl _) rfl rfl
      apply Flow.det_step
      · go_light
        intro w1 hC1
        simp only [Flow.fill, Flow.after, Flow.at_, List.nil_append, List.cons_append, List.getD_cons_zero, List.getD_cons_succ, det, forall_eq, List.setIfInBounds_toArray, List.set_cons_zero, List.set_cons_succ, List.drop, List.length]
        have hb3 := hC1
        have hs3 := hb3.size; have k0 := (hb3.cell (p := ⟨b, o + 3 * k, none⟩) (by show b < _; omega)).trans c0; have k1 := (hb3.cell (p := ⟨b, o + (3 * k + 1), none⟩) (by show b < _; omega)).trans c1; have k2 := (hb3.cell (p := ⟨b, o + (3 * k + 2), none⟩) (by show b < _; omega)).trans c2
        go_wp2
        exact Flow.post_det hb3 (Grow.refl _) rfl rfl
      intro w1 hC1
      simp only [Flow.fill, Flow.after, Flow.at_, List.nil_append, List.cons_append, List.getD_cons_zero, List.getD_cons_succ, det, forall_eq, List.setIfInBounds_toArray, List.set_cons_zero, List.set_cons_succ, List.drop, List.length]
      have hb3 := hC1
      have hs3 := hb3.size
      subst e2
      subst e3
      rw [← e0, ← e1]
      clear e0 e1 c0 c1 c2 r0 r1 r2 hh
      have ho1 := own_keep hown hb3
      obtain ⟨u0, m0⟩ := own_some ho1 (show k * 4 < q * 4 by omega)
      obtain ⟨u1, m1⟩ := own_some ho1 (show k * 4 + 1 < q * 4 by omega)
      obtain ⟨u2, m2⟩ := own_some ho1 (show k * 4 + 2 < q * 4 by omega)
      obtain ⟨u3, m3⟩ := own_some ho1 (show k * 4 + 3 < q * 4 by omega)
      have f0 := ho1.frozenAt (k * 4)
      have f1 := ho1.frozenAt (k * 4 + 1)
      have f2 := ho1.frozenAt (k * 4 + 2)
      have f3 := ho1.frozenAt (k * 4 + 3)
      have ho4 := own_set4 ho1 (k * 4) (.int .i64 r.k) (.int .i64 r.c) (.int .i64 r.t) (.int .i64 r.o)
      have hL4 := HLL.out.next hown.1 hlt HR.out
      have hbw1 : Below w.heap.size w w1 := hbw.trans (hb3.mono hbw.size)
      have hb4 : Below w.heap.size w _ := hbw1.grown (grown4 w1 w.heap.size (k * 4) (.int .i64 r.k) (.int .i64 r.c) (.int .i64 r.t) (.int .i64 r.o)) hbw1.size (fun k hk => by injection hk with hk; subst hk; exact Nat.le_refl _)
      clear ho1 hb3 hC1 hbw1
      go_wp2_with fail
      refine (recFault_any r _).mono ?_
      rintro e w5 ⟨rfl, hb5⟩
      have hb5' : Below (set4 w1 w.heap.size (k * 4) (.int .i64 r.k) (.int .i64 r.c) (.int .i64 r.t) (.int .i64 r.o)).heap.size (set4 w1 w.heap.size (k * 4) (.int .i64 r.k) (.int .i64 r.c) (.int .i64 r.t) (.int .i64 r.o)) w5 := hb5
      have ho5 := own_keep ho4 hb5'
      have hbw5 := hb4.trans (hb5'.mono hb4.size)
      clear m0 m1 m2 m3 f0 f1 f2 f3 hb5 hb5' ho4 hb4
      by_cases he : r.err = 0
      · go_wp2
        go_roundw
        case rel => exact ⟨k + 1, by omega, by go_num, ⟨good_next HG.out (by rw [HR.out]; exact he), ⟨_, ho5, hL4⟩, hbw5⟩⟩
        case measure => simp [intOf]; omega
      · have he' : (r.err != 0) = true := by simpa using he
        have hfin := Lib.hid (recsErr_at (q := q) (by rw [HL.out, HN.out]) (by rw [HL.out]; exact hbig) hlt HG.out (by rw [HR.out]; exact he))
        go_wp2
        go_ret2
        exact .bad (by rw [hfin.out, HR.out]) he hbw5
    · obtain rfl : k = q := by omega
      have hfin := Lib.hid (recsErr_all (q := k) (by rw [HL.out, HN.out]) (by rw [HL.out]; exact hbig) HG.out)
      have hq4 := Lib.hid (show xs.length / 3 = k by rw [HL.out, ← HN.out]; omega)
      have HE := Lib.hid (HLL.out.all hown.1)
      go_wp2
      go_ret2
      exact .good hfin.out (by rw [hq4.out, ← recs_len xs k]; have := Reads.of_own hown; rw [HE.out] at this; rw [recs_len]; exact ⟨this, recs_len _ _⟩) hbw
end Go.Proofs.Ytjdbclcafjlohaa
