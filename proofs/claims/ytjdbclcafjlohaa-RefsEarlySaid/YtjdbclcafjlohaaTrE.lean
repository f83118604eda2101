/- Contract of trace.Decode. -/
import Derived.Test.YtjdbclcafjlohaaTrC
namespace Go.Proofs.Ytjdbclcafjlohaa
open Go.RowKit
set_option maxHeartbeats 400000
set_option linter.unusedVariables false
set_option linter.unusedSimpArgs false
def recAt (xs : List Int) (j : Nat) : Rc := ⟨xs.getD (3 * j) 0 / 4, xs.getD (3 * j) 0 % 4, xs.getD (3 * j + 1) 0, xs.getD (3 * j + 2) 0⟩
def recs (xs : List Int) (k : Nat) : List Rc := (List.range k).map (recAt xs)
def recsErr (xs : List Int) : Int := if 1200 < xs.length then 2 else if xs.length % 3 ≠ 0 then 21 else errs (recs xs (xs.length / 3))
theorem recs_succ (xs : List Int) (k : Nat) : recs xs (k + 1) = recs xs k ++ [recAt xs k] := by unfold recs; rw [List.range_succ, List.map_append]; rfl
theorem recs_len (xs : List Int) (k : Nat) : (recs xs k).length = k := by simp [recs]
theorem recs_getD (xs : List Int) (k j : Nat) (h : j < k) : (recs xs k).getD j .zero = recAt xs j := by simp [recs, List.getD, h]
def DecPost (w : World) (xs : List Int) (e : Ending) (w' : World) : Prop :=
  ∃ A m c, e = .returned (.tuple #[.slice A m c, .int .i64 (recsErr xs)]) ∧ RR w' w'.heap.size A m (if recsErr xs = 0 then recs xs (xs.length / 3) else []) ∧ Below w.heap.size w w'
theorem DecPost.bad {w w' : World} {xs : List Int} {x : Int} (hx : recsErr xs = x) (h0 : x ≠ 0) (hb : Below w.heap.size w w') : DecPost w xs (.returned (.tuple #[.slice none 0 0, .int .i64 x])) w' := by
  subst hx
  refine ⟨none, 0, 0, rfl, ?_, hb⟩
  rw [if_neg h0]
  exact ⟨Reads.none_, rfl⟩
theorem DecPost.good {w w' : World} {xs : List Int} {A : Option Addr} {m c : Nat} (hx : recsErr xs = 0) (hr : RR w' w'.heap.size A m (recs xs (xs.length / 3))) (hb : Below w.heap.size w w') : DecPost w xs (.returned (.tuple #[.slice A m c, .int .i64 0])) w' := by
  refine ⟨A, m, c, by rw [hx], ?_, hb⟩
  rw [if_pos hx]
  exact hr
theorem u8_and3 (x : Int) (h : 0 ≤ x ∧ x < 256) : bits .and .u8 x 3 = x % 4 := by
  rw [u8_and x 3 h.1 h.2 (by decide) (by decide)]
  have : x.toNat &&& (3 : Int).toNat = x.toNat % 4 := Nat.and_two_pow_sub_one_eq_mod x.toNat 2
  rw [this]
  omega
/-- A pointer to a record of zeros that the region made. -/
def ptr4 (B : Nat) : St := ⟨fun v W => ∃ g6, v = .pointer (some ⟨g6, 0, none⟩) ∧ B ≤ g6 ∧ g6 < W.heap.size ∧ W.heap[g6]? = some (.cells #[.int .i64 0, .int .i64 0, .int .i64 0, .int .i64 0] 24 (0, 0)),
  fun v W W' hh hg => by obtain ⟨g6, h1, h2, h3, h4⟩ := hh; exact ⟨g6, h1, h2, Nat.lt_of_lt_of_le h3 hg.size, (hg.block g6 h3).trans h4⟩⟩
theorem row4 {w : World} {g : Nat} {c0 c1 c2 c3 : Value} {t : TypeId} (h : w.heap[g]? = some (.cells #[c0, c1, c2, c3] t (0, 0))) :
    w.cell? ⟨g, 0, none⟩ = some c0 ∧ w.cell? ⟨g, 1, none⟩ = some c1 ∧ w.cell? ⟨g, 2, none⟩ = some c2 ∧ w.cell? ⟨g, 3, none⟩ = some c3 := by
  refine ⟨?_, ?_, ?_, ?_⟩
  all_goals (rw [cell_of_row w g _ _ t (0, 0) h]; rfl)
theorem row4f {w : World} {g : Nat} {cs : Array Value} {t : TypeId} (h : w.heap[g]? = some (.cells cs t (0, 0))) :
    w.frozen? ⟨g, 0, none⟩ = false ∧ w.frozen? ⟨g, 1, none⟩ = false ∧ w.frozen? ⟨g, 2, none⟩ = false ∧ w.frozen? ⟨g, 3, none⟩ = false :=
  ⟨frozen_of_row w g _ cs t h, frozen_of_row w g _ cs t h, frozen_of_row w g _ cs t h, frozen_of_row w g _ cs t h⟩
theorem grown_set (a w : World) (g : Nat) (h : a.grownBy w (some g)) (o : Nat) (u : Value) : a.grownBy (w.setCell ⟨g, o, none⟩ u) (some g) :=
  ⟨h.os, h.tape, h.output, by simpa [World.setCell] using h.size, fun i hi hne => (Below.heap_setCell w ⟨g, o, none⟩ u i (fun e => hne (by rw [e]))).trans (h.block i hi hne)⟩
/-- Four cells stored. -/
def set4 (w : World) (g o : Nat) (a b c d : Value) : World := (((w.setCell ⟨g, o, none⟩ a).setCell ⟨g, o + 1, none⟩ b).setCell ⟨g, o + 2, none⟩ c).setCell ⟨g, o + 3, none⟩ d
theorem grown4 (w : World) (g o : Nat) (a b c d : Value) : w.grownBy (set4 w g o a b c d) (some g) :=
  grown_set _ _ _ (grown_set _ _ _ (grown_set _ _ _ (grown_set _ _ _ (World.grownBy.refl w _) o a) (o + 1) b) (o + 2) c) (o + 3) d
theorem row_set {w : World} {g : Nat} {cs : Array Value} {t : TypeId} (h : w.heap[g]? = some (.cells cs t (0, 0))) (i : Nat) (u : Value) : (w.setCell ⟨g, i, none⟩ u).heap[g]? = some (.cells (cs.setIfInBounds i u) t (0, 0)) := by
  simp [World.setCell, Array.getElem?_modify, h]
theorem set4_row {w : World} {g : Nat} {c0 c1 c2 c3 a b c d : Value} {t : TypeId} (h : w.heap[g]? = some (.cells #[c0, c1, c2, c3] t (0, 0))) :
    (set4 w g 0 a b c d).heap[g]? = some (.cells #[a, b, c, d] t (0, 0)) :=
  row_set (row_set (row_set (row_set h 0 a) 1 b) 2 c) 3 d
theorem reads_new4 (w : World) (r : Rc) (t : TypeId) : Reads (w.alloc (.cells #[.int .i64 r.k, .int .i64 r.c, .int .i64 r.t, .int .i64 r.o] t)) (w.heap.size + 1) 4 (some ⟨w.heap.size, 0, none⟩) 1 r.cells := by
  refine ⟨rfl, fun _ => ⟨w.heap.size, 0, rfl, by omega, fun j u hu => ?_⟩⟩
  rw [Nat.zero_add, cell_of_row _ w.heap.size j _ t (0, 0) (heap_alloc_new w _)]
  simpa [Rc.cells] using hu
theorem rc_oneCell (r : Rc) : ∀ u ∈ r.cells, u.oneCell' = true := by
  intro u hu
  simp only [Rc.cells, List.mem_cons, List.not_mem_nil, or_false] at hu
  rcases hu with rfl | rfl | rfl | rfl <;> rfl
theorem own_ne {w : World} {base : Nat} {e : TypeId} {size n g : Nat} {v : Value} {xs : List Value} (h : w.ownsRow base e size v n xs) (hg : w.heap.size ≤ g) : v.ownBlock ≠ some g := fun he => by
  have := (h.lt g he).2
  omega
theorem recinfo : (Try.prog.info? 24).map (fun i => (i.zero, i.size, i.bytes)) = some (some (.agg #[.int .i64 0, .int .i64 0, .int .i64 0, .int .i64 0]), 4, 32) := by kernel_rfl
def DecRel (w : World) (xs : List Int) (k : Nat) (v : Value) (wr : World) : Prop :=
  (∀ j, j < k → (recAt xs j).err = 0) ∧ wr.ownsRow w.heap.size 24 4 v k ((recs xs k).flatMap Rc.cells) ∧ Below w.heap.size w wr
theorem DecRel.next {w wr w3 w4 : World} {xs : List Int} {k : Nat} {v v4 : Value} (hg : ∀ j, j < k → (recAt xs j).err = 0) (he : (recAt xs k).err = 0) (hb : Below w.heap.size w w3)
    (hv : wr.ownsRow w.heap.size 24 4 v k ((recs xs k).flatMap Rc.cells))
    (ho : w4.ownsRow w.heap.size 24 4 v4 (k + 1) ((recs xs k).flatMap Rc.cells ++ (recAt xs k).cells)) (hgr : w3.grownBy w4 v.ownBlock) : DecRel w xs (k + 1) v4 w4 := by
  refine ⟨fun j hj => ?_, ?_, hb.grown hgr hb.size fun g hgg => (hv.lt g hgg).1⟩
  · by_cases hjk : j < k
    · exact hg j hjk
    · obtain rfl : j = k := by omega
      exact he
  · rw [recs_succ, List.flatMap_append]
    simpa using ho
theorem recsErr_big {xs : List Int} (h : 1200 < xs.length) : recsErr xs = 2 := by unfold recsErr; rw [if_pos h]
theorem recsErr_odd {xs : List Int} (h : ¬ 1200 < xs.length) (h' : xs.length % 3 ≠ 0) : recsErr xs = 21 := by unfold recsErr; rw [if_neg h, if_pos h']
theorem recsErr_at {xs : List Int} {q k : Nat} (h : xs.length = 3 * q) (h' : ¬ 1200 < xs.length) (hk : k < q) (hg : ∀ j, j < k → (recAt xs j).err = 0) (he : (recAt xs k).err ≠ 0) : recsErr xs = (recAt xs k).err := by
  unfold recsErr
  rw [if_neg h', if_neg (by omega), show xs.length / 3 = q by omega]
  have := errs_take (recs xs q) k (fun j hj => by rw [recs_getD xs q j (by omega)]; exact hg j hj) (by rw [recs_len]; exact hk) (by rw [recs_getD xs q k hk]; exact he)
  rw [this, recs_getD xs q k hk]
theorem recsErr_all {xs : List Int} {q : Nat} (h : xs.length = 3 * q) (h' : ¬ 1200 < xs.length) (hg : ∀ j, j < q → (recAt xs j).err = 0) : recsErr xs = 0 := by
  unfold recsErr
  rw [if_neg h', if_neg (by omega), show xs.length / 3 = q by omega]
  exact errs_all _ fun j hj => by rw [recs_len] at hj; rw [recs_getD xs q j hj]; exact hg j hj
set_option maxHeartbeats 4000000 in
set_option maxRecDepth 100000 in
theorem decode_any (A : Option Addr) (n c : Nat) (xs : List Int) (w : World) (B : Nat) (h : RB w B A n xs) (hB : B ≤ w.heap.size) (hn : n ≤ 9223372036854775807) :
    Calls Try.prog 17 #[.slice A n c] w (DecPost w xs) := by
  have HL := Lib.hid h.len
  by_cases hbig : 1200 < n
  · go_enter Try.func17, Try.ntmps17
    go_wp2
    go_ret2
    exact .bad (recsErr_big (by rw [HL.out]; exact hbig)) (by decide) (Below.refl _ _)
  by_cases hodd : n % 3 ≠ 0
  · have h3 : ((n : Int) % 3 != 0) = true := by simp; omega
    go_enter Try.func17, Try.ntmps17
    go_wp2
    go_ret2
    exact .bad (recsErr_odd (by rw [HL.out]; exact hbig) (by rw [HL.out]; exact hodd)) (by decide) (Below.refl _ _)
  obtain ⟨q, rfl⟩ : ∃ q, n = 3 * q := ⟨n / 3, by omega⟩
  clear hodd
  have hq : q ≤ 400 := by omega
  have h3 : (((3 * q : Nat) : Int) % 3 != 0) = false := by simp
  generalize hN : 3 * q = n at *
  have HN := Lib.hid hN
  clear hN
  obtain ⟨i0, hi0, hz0, hz1, hz2⟩ := info_parts recinfo
  have hrel0 : DecRel w xs 0 (.slice none 0 0) w := ⟨fun j hj => by omega, World.ownsRow_nil _ _ _ _, Below.refl _ _⟩
  go_enter Try.func17, Try.ntmps17
  go_wp2
  go_loopw [4, 5] (fun v i wr => ∃ k : Nat, k ≤ q ∧ i = .int .i64 ((3 * k : Nat) : Int) ∧ DecRel w xs k v wr) (fun _ i _ => n - (intOf i).toNat)
  case atStart => exact ⟨0, by omega, rfl, hrel0⟩
  case round =>
    obtain ⟨k, hk, rfl, hgood, hown, hbw⟩ := hrel
    clear hrel0
    have HG := Lib.hid hgood
    clear hgood
    by_cases hlt : k < q
    · have hh := h.below' hbw hB
      obtain ⟨b, o, rfl, hb, c0, -⟩ := hh.at_ (show 3 * k < n by rw [← HN.out]; omega)
      have c1 := hh.cells (3 * k + 1) (by rw [← HN.out]; omega)
      have c2 := hh.cells (3 * k + 2) (by rw [← HN.out]; omega)
      have r0 := h.rng (3 * k)
      have r1 := h.rng (3 * k + 1)
      have r2 := h.rng (3 * k + 2)
      obtain ⟨r, hr⟩ : ∃ r, recAt xs k = r := ⟨_, rfl⟩
      have e0 : r.k = xs.getD (3 * k) 0 / 4 := by rw [← hr]; rfl
      have e1 : r.c = xs.getD (3 * k) 0 % 4 := by rw [← hr]; rfl
      have e2 : r.t = xs.getD (3 * k + 1) 0 := by rw [← hr]; rfl
      have e3 : r.o = xs.getD (3 * k + 2) 0 := by rw [← hr]; rfl
      have HR := Lib.hid hr
      clear hr
      generalize xs.getD (3 * k) 0 = y0 at *
      generalize xs.getD (3 * k + 1) 0 = y1 at *
      generalize xs.getD (3 * k + 2) 0 = y2 at *
      have ha := u8_and3 y0 r0
      obtain ⟨i, hi⟩ : ∃ i, i = 3 * k := ⟨_, rfl⟩
      rw [← hi] at c0 c1 c2 ⊢
      have hin : i + 2 < n := by rw [← HN.out]; omega
      have HI := Lib.hid hi
      clear hi
      have hi1 : (i : Int) < n := by omega
      have hbwr : b < wr.heap.size := by have := hbw.size; omega
      have hi2 : (i : Int) + 1 < n := by omega
      have hi3 : (i : Int) + 2 < n := by omega
      go_wp2_with fail
      refine wp_region_walk (fun w' => Below wr.heap.size wr w') [[], [], [(23, 0), (24, 1)], [(25, 2)], [(26, 3)], [(27, 4)], [], [], [(29, 6), (30, 7)], [(31, 8)], [(32, 9)], [(33, 10)], [], [], [(36, 13)], [(35, 12), (37, 14)], [(38, 15)], [(39, 16)], [], [], [(42, 19)], [(41, 18), (43, 20)], [(44, 21)], [(45, 22)], [(28, 5), (34, 11), (40, 17), (46, 23)], []]
        [(23, 0), (24, 1), (25, 2), (26, 3), (27, 4), (28, 5), (29, 6), (30, 7), (31, 8), (32, 9), (33, 10), (34, 11), (35, 12), (36, 13), (37, 14), (38, 15), (39, 16), (40, 17), (41, 18), (42, 19), (43, 20), (44, 21), (45, 22), (46, 23), (47, 24), (6, 25)] (by kernel_rfl) (by kernel_rfl) (by kernel_rfl) (Below.refl _ _).drew ?_
      apply Flow.det_step
      · go_light
        intro w1 hC1
        simp only [Flow.fill, Flow.after, Flow.at_, List.nil_append, List.cons_append, List.getD_cons_zero, List.getD_cons_succ, det, forall_eq, List.setIfInBounds_toArray, List.set_cons_zero, List.set_cons_succ, List.drop, List.length]
        have hb3 := hC1
        have hs3 := hb3.size; have k0 := (hb3.cell (p := ⟨b, o + i, none⟩) (by show b < _; omega)).trans c0; have k1 := (hb3.cell (p := ⟨b, o + (i + 1), none⟩) (by show b < _; omega)).trans c1; have k2 := (hb3.cell (p := ⟨b, o + (i + 2), none⟩) (by show b < _; omega)).trans c2
        go_wp2
        exact Flow.post_det hb3 (Grow.refl _) rfl rfl
      apply Flow.det_step
      · go_light
        intro w1 hC1
        simp only [Flow.fill, Flow.after, Flow.at_, List.nil_append, List.cons_append, List.getD_cons_zero, List.getD_cons_succ, det, forall_eq, List.setIfInBounds_toArray, List.set_cons_zero, List.set_cons_succ, List.drop, List.length]
        have hb3 := hC1
        have hs3 := hb3.size; have k0 := (hb3.cell (p := ⟨b, o + i, none⟩) (by show b < _; omega)).trans c0; have k1 := (hb3.cell (p := ⟨b, o + (i + 1), none⟩) (by show b < _; omega)).trans c1; have k2 := (hb3.cell (p := ⟨b, o + (i + 2), none⟩) (by show b < _; omega)).trans c2
        go_wp2
        exact Flow.post_det hb3 (Grow.refl _) rfl rfl
      apply Flow.det_step
      · go_light
        intro w1 hC1
        simp only [Flow.fill, Flow.after, Flow.at_, List.nil_append, List.cons_append, List.getD_cons_zero, List.getD_cons_succ, det, forall_eq, List.setIfInBounds_toArray, List.set_cons_zero, List.set_cons_succ, List.drop, List.length]
        have hb3 := hC1
        have hs3 := hb3.size; have k0 := (hb3.cell (p := ⟨b, o + i, none⟩) (by show b < _; omega)).trans c0; have k1 := (hb3.cell (p := ⟨b, o + (i + 1), none⟩) (by show b < _; omega)).trans c1; have k2 := (hb3.cell (p := ⟨b, o + (i + 2), none⟩) (by show b < _; omega)).trans c2
        go_wp2
        exact Flow.post_det hb3 (Grow.refl _) rfl rfl
      apply Flow.det_step
      · go_light
        intro w1 hC1
        simp only [Flow.fill, Flow.after, Flow.at_, List.nil_append, List.cons_append, List.getD_cons_zero, List.getD_cons_succ, det, forall_eq, List.setIfInBounds_toArray, List.set_cons_zero, List.set_cons_succ, List.drop, List.length]
        have hb3 := hC1
        have hs3 := hb3.size; have k0 := (hb3.cell (p := ⟨b, o + i, none⟩) (by show b < _; omega)).trans c0; have k1 := (hb3.cell (p := ⟨b, o + (i + 1), none⟩) (by show b < _; omega)).trans c1; have k2 := (hb3.cell (p := ⟨b, o + (i + 2), none⟩) (by show b < _; omega)).trans c2
        go_wp2
        exact Flow.post_det hb3 (Grow.refl _) rfl rfl
      apply Flow.det_step
      · go_light
        intro w1 hC1
        simp only [Flow.fill, Flow.after, Flow.at_, List.nil_append, List.cons_append, List.getD_cons_zero, List.getD_cons_succ, det, forall_eq, List.setIfInBounds_toArray, List.set_cons_zero, List.set_cons_succ, List.drop, List.length]
        have hb3 := hC1
        have hs3 := hb3.size; have k0 := (hb3.cell (p := ⟨b, o + i, none⟩) (by show b < _; omega)).trans c0; have k1 := (hb3.cell (p := ⟨b, o + (i + 1), none⟩) (by show b < _; omega)).trans c1; have k2 := (hb3.cell (p := ⟨b, o + (i + 2), none⟩) (by show b < _; omega)).trans c2
        go_wp2
        exact Flow.post_det hb3 (Grow.refl _) rfl rfl
      apply Flow.det_step
      · go_light
        intro w1 hC1
        simp only [Flow.fill, Flow.after, Flow.at_, List.nil_append, List.cons_append, List.getD_cons_zero, List.getD_cons_succ, det, forall_eq, List.setIfInBounds_toArray, List.set_cons_zero, List.set_cons_succ, List.drop, List.length]
        have hb3 := hC1
        have hs3 := hb3.size; have k0 := (hb3.cell (p := ⟨b, o + i, none⟩) (by show b < _; omega)).trans c0; have k1 := (hb3.cell (p := ⟨b, o + (i + 1), none⟩) (by show b < _; omega)).trans c1; have k2 := (hb3.cell (p := ⟨b, o + (i + 2), none⟩) (by show b < _; omega)).trans c2
        go_wp2
        exact Flow.post_det hb3 (Grow.refl _) rfl rfl
      apply Flow.det_step
      · go_light
        intro w1 hC1
        simp only [Flow.fill, Flow.after, Flow.at_, List.nil_append, List.cons_append, List.getD_cons_zero, List.getD_cons_succ, det, forall_eq, List.setIfInBounds_toArray, List.set_cons_zero, List.set_cons_succ, List.drop, List.length]
        have hb3 := hC1
        have hs3 := hb3.size; have k0 := (hb3.cell (p := ⟨b, o + i, none⟩) (by show b < _; omega)).trans c0; have k1 := (hb3.cell (p := ⟨b, o + (i + 1), none⟩) (by show b < _; omega)).trans c1; have k2 := (hb3.cell (p := ⟨b, o + (i + 2), none⟩) (by show b < _; omega)).trans c2
        go_wp2
        exact Flow.post_det hb3 (Grow.refl _) rfl rfl
      apply Flow.det_step
      · go_light
        intro w1 hC1
        simp only [Flow.fill, Flow.after, Flow.at_, List.nil_append, List.cons_append, List.getD_cons_zero, List.getD_cons_succ, det, forall_eq, List.setIfInBounds_toArray, List.set_cons_zero, List.set_cons_succ, List.drop, List.length]
        have hb3 := hC1
        have hs3 := hb3.size; have k0 := (hb3.cell (p := ⟨b, o + i, none⟩) (by show b < _; omega)).trans c0; have k1 := (hb3.cell (p := ⟨b, o + (i + 1), none⟩) (by show b < _; omega)).trans c1; have k2 := (hb3.cell (p := ⟨b, o + (i + 2), none⟩) (by show b < _; omega)).trans c2
        go_wp2
        exact Flow.post_det hb3 (Grow.refl _) rfl rfl
      apply Flow.det_step
      · go_light
        intro w1 hC1
        simp only [Flow.fill, Flow.after, Flow.at_, List.nil_append, List.cons_append, List.getD_cons_zero, List.getD_cons_succ, det, forall_eq, List.setIfInBounds_toArray, List.set_cons_zero, List.set_cons_succ, List.drop, List.length]
        have hb3 := hC1
        have hs3 := hb3.size; have k0 := (hb3.cell (p := ⟨b, o + i, none⟩) (by show b < _; omega)).trans c0; have k1 := (hb3.cell (p := ⟨b, o + (i + 1), none⟩) (by show b < _; omega)).trans c1; have k2 := (hb3.cell (p := ⟨b, o + (i + 2), none⟩) (by show b < _; omega)).trans c2
        go_wp2
        exact Flow.post_det hb3 (Grow.refl _) rfl rfl
      apply Flow.det_step
      · go_light
        intro w1 hC1
        simp only [Flow.fill, Flow.after, Flow.at_, List.nil_append, List.cons_append, List.getD_cons_zero, List.getD_cons_succ, det, forall_eq, List.setIfInBounds_toArray, List.set_cons_zero, List.set_cons_succ, List.drop, List.length]
        have hb3 := hC1
        have hs3 := hb3.size; have k0 := (hb3.cell (p := ⟨b, o + i, none⟩) (by show b < _; omega)).trans c0; have k1 := (hb3.cell (p := ⟨b, o + (i + 1), none⟩) (by show b < _; omega)).trans c1; have k2 := (hb3.cell (p := ⟨b, o + (i + 2), none⟩) (by show b < _; omega)).trans c2
        go_wp2
        exact Flow.post_det hb3 (Grow.refl _) rfl rfl
      apply Flow.det_step
      · go_light
        intro w1 hC1
        simp only [Flow.fill, Flow.after, Flow.at_, List.nil_append, List.cons_append, List.getD_cons_zero, List.getD_cons_succ, det, forall_eq, List.setIfInBounds_toArray, List.set_cons_zero, List.set_cons_succ, List.drop, List.length]
        have hb3 := hC1
        have hs3 := hb3.size; have k0 := (hb3.cell (p := ⟨b, o + i, none⟩) (by show b < _; omega)).trans c0; have k1 := (hb3.cell (p := ⟨b, o + (i + 1), none⟩) (by show b < _; omega)).trans c1; have k2 := (hb3.cell (p := ⟨b, o + (i + 2), none⟩) (by show b < _; omega)).trans c2
        go_wp2
        exact Flow.post_det hb3 (Grow.refl _) rfl rfl
      apply Flow.det_step
      · go_light
        intro w1 hC1
        simp only [Flow.fill, Flow.after, Flow.at_, List.nil_append, List.cons_append, List.getD_cons_zero, List.getD_cons_succ, det, forall_eq, List.setIfInBounds_toArray, List.set_cons_zero, List.set_cons_succ, List.drop, List.length]
        have hb3 := hC1
        have hs3 := hb3.size; have k0 := (hb3.cell (p := ⟨b, o + i, none⟩) (by show b < _; omega)).trans c0; have k1 := (hb3.cell (p := ⟨b, o + (i + 1), none⟩) (by show b < _; omega)).trans c1; have k2 := (hb3.cell (p := ⟨b, o + (i + 2), none⟩) (by show b < _; omega)).trans c2
        go_wp2
        exact Flow.post_det hb3 (Grow.refl _) rfl rfl
      apply Flow.det_step
      · go_light
        intro w1 hC1
        simp only [Flow.fill, Flow.after, Flow.at_, List.nil_append, List.cons_append, List.getD_cons_zero, List.getD_cons_succ, det, forall_eq, List.setIfInBounds_toArray, List.set_cons_zero, List.set_cons_succ, List.drop, List.length]
        have hb3 := hC1
        have hs3 := hb3.size; have k0 := (hb3.cell (p := ⟨b, o + i, none⟩) (by show b < _; omega)).trans c0; have k1 := (hb3.cell (p := ⟨b, o + (i + 1), none⟩) (by show b < _; omega)).trans c1; have k2 := (hb3.cell (p := ⟨b, o + (i + 2), none⟩) (by show b < _; omega)).trans c2
        go_wp2
        exact Flow.post_det hb3 (Grow.refl _) rfl rfl
      apply Flow.det_step
      · go_light
        intro w1 hC1
        simp only [Flow.fill, Flow.after, Flow.at_, List.nil_append, List.cons_append, List.getD_cons_zero, List.getD_cons_succ, det, forall_eq, List.setIfInBounds_toArray, List.set_cons_zero, List.set_cons_succ, List.drop, List.length]
        have hb3 := hC1
        have hs3 := hb3.size; have k0 := (hb3.cell (p := ⟨b, o + i, none⟩) (by show b < _; omega)).trans c0; have k1 := (hb3.cell (p := ⟨b, o + (i + 1), none⟩) (by show b < _; omega)).trans c1; have k2 := (hb3.cell (p := ⟨b, o + (i + 2), none⟩) (by show b < _; omega)).trans c2
        go_wp2
        exact Flow.post_det hb3 (Grow.refl _) rfl rfl
      apply Flow.det_step
      · go_light
        intro w1 hC1
        simp only [Flow.fill, Flow.after, Flow.at_, List.nil_append, List.cons_append, List.getD_cons_zero, List.getD_cons_succ, det, forall_eq, List.setIfInBounds_toArray, List.set_cons_zero, List.set_cons_succ, List.drop, List.length]
        have hb3 := hC1
        have hs3 := hb3.size; have k0 := (hb3.cell (p := ⟨b, o + i, none⟩) (by show b < _; omega)).trans c0; have k1 := (hb3.cell (p := ⟨b, o + (i + 1), none⟩) (by show b < _; omega)).trans c1; have k2 := (hb3.cell (p := ⟨b, o + (i + 2), none⟩) (by show b < _; omega)).trans c2
        go_wp2
        exact Flow.post_det hb3 (Grow.refl _) rfl rfl
      apply Flow.det_step
      · go_light
        intro w1 hC1
        simp only [Flow.fill, Flow.after, Flow.at_, List.nil_append, List.cons_append, List.getD_cons_zero, List.getD_cons_succ, det, forall_eq, List.setIfInBounds_toArray, List.set_cons_zero, List.set_cons_succ, List.drop, List.length]
        have hb3 := hC1
        have hs3 := hb3.size; have k0 := (hb3.cell (p := ⟨b, o + i, none⟩) (by show b < _; omega)).trans c0; have k1 := (hb3.cell (p := ⟨b, o + (i + 1), none⟩) (by show b < _; omega)).trans c1; have k2 := (hb3.cell (p := ⟨b, o + (i + 2), none⟩) (by show b < _; omega)).trans c2
        go_wp2
        exact Flow.post_det hb3 (Grow.refl _) rfl rfl
      apply Flow.det_step
      · go_light
        intro w1 hC1
        simp only [Flow.fill, Flow.after, Flow.at_, List.nil_append, List.cons_append, List.getD_cons_zero, List.getD_cons_succ, det, forall_eq, List.setIfInBounds_toArray, List.set_cons_zero, List.set_cons_succ, List.drop, List.length]
        have hb3 := hC1
        have hs3 := hb3.size; have k0 := (hb3.cell (p := ⟨b, o + i, none⟩) (by show b < _; omega)).trans c0; have k1 := (hb3.cell (p := ⟨b, o + (i + 1), none⟩) (by show b < _; omega)).trans c1; have k2 := (hb3.cell (p := ⟨b, o + (i + 2), none⟩) (by show b < _; omega)).trans c2
        go_wp2
        exact Flow.post_det hb3 (Grow.refl _) rfl rfl
      apply Flow.det_step
      · go_light
        intro w1 hC1
        simp only [Flow.fill, Flow.after, Flow.at_, List.nil_append, List.cons_append, List.getD_cons_zero, List.getD_cons_succ, det, forall_eq, List.setIfInBounds_toArray, List.set_cons_zero, List.set_cons_succ, List.drop, List.length]
        have hb3 := hC1
        have hs3 := hb3.size; have k0 := (hb3.cell (p := ⟨b, o + i, none⟩) (by show b < _; omega)).trans c0; have k1 := (hb3.cell (p := ⟨b, o + (i + 1), none⟩) (by show b < _; omega)).trans c1; have k2 := (hb3.cell (p := ⟨b, o + (i + 2), none⟩) (by show b < _; omega)).trans c2
        go_wp2
        exact Flow.post_det hb3 (Grow.refl _) rfl rfl
      apply Flow.det_step
      · go_light
        intro w1 hC1
        simp only [Flow.fill, Flow.after, Flow.at_, List.nil_append, List.cons_append, List.getD_cons_zero, List.getD_cons_succ, det, forall_eq, List.setIfInBounds_toArray, List.set_cons_zero, List.set_cons_succ, List.drop, List.length]
        have hb3 := hC1
        have hs3 := hb3.size; have k0 := (hb3.cell (p := ⟨b, o + i, none⟩) (by show b < _; omega)).trans c0; have k1 := (hb3.cell (p := ⟨b, o + (i + 1), none⟩) (by show b < _; omega)).trans c1; have k2 := (hb3.cell (p := ⟨b, o + (i + 2), none⟩) (by show b < _; omega)).trans c2
        go_wp2
        exact Flow.post_det hb3 (Grow.refl _) rfl rfl
      apply Flow.det_step
      · go_light
        intro w1 hC1
        simp only [Flow.fill, Flow.after, Flow.at_, List.nil_append, List.cons_append, List.getD_cons_zero, List.getD_cons_succ, det, forall_eq, List.setIfInBounds_toArray, List.set_cons_zero, List.set_cons_succ, List.drop, List.length]
        have hb3 := hC1
        have hs3 := hb3.size; have k0 := (hb3.cell (p := ⟨b, o + i, none⟩) (by show b < _; omega)).trans c0; have k1 := (hb3.cell (p := ⟨b, o + (i + 1), none⟩) (by show b < _; omega)).trans c1; have k2 := (hb3.cell (p := ⟨b, o + (i + 2), none⟩) (by show b < _; omega)).trans c2
        go_wp2
        exact Flow.post_det hb3 (Grow.refl _) rfl rfl
      apply Flow.det_step
      · go_light
        intro w1 hC1
        simp only [Flow.fill, Flow.after, Flow.at_, List.nil_append, List.cons_append, List.getD_cons_zero, List.getD_cons_succ, det, forall_eq, List.setIfInBounds_toArray, List.set_cons_zero, List.set_cons_succ, List.drop, List.length]
        have hb3 := hC1
        have hs3 := hb3.size; have k0 := (hb3.cell (p := ⟨b, o + i, none⟩) (by show b < _; omega)).trans c0; have k1 := (hb3.cell (p := ⟨b, o + (i + 1), none⟩) (by show b < _; omega)).trans c1; have k2 := (hb3.cell (p := ⟨b, o + (i + 2), none⟩) (by show b < _; omega)).trans c2
        go_wp2
        exact Flow.post_det hb3 (Grow.refl _) rfl rfl
      apply Flow.det_step
      · go_light
        intro w1 hC1
        simp only [Flow.fill, Flow.after, Flow.at_, List.nil_append, List.cons_append, List.getD_cons_zero, List.getD_cons_succ, det, forall_eq, List.setIfInBounds_toArray, List.set_cons_zero, List.set_cons_succ, List.drop, List.length]
        have hb3 := hC1
        have hs3 := hb3.size; have k0 := (hb3.cell (p := ⟨b, o + i, none⟩) (by show b < _; omega)).trans c0; have k1 := (hb3.cell (p := ⟨b, o + (i + 1), none⟩) (by show b < _; omega)).trans c1; have k2 := (hb3.cell (p := ⟨b, o + (i + 2), none⟩) (by show b < _; omega)).trans c2
        go_wp2
        exact Flow.post_det hb3 (Grow.refl _) rfl rfl
      apply Flow.det_step
      · go_light
        intro w1 hC1
        simp only [Flow.fill, Flow.after, Flow.at_, List.nil_append, List.cons_append, List.getD_cons_zero, List.getD_cons_succ, det, forall_eq, List.setIfInBounds_toArray, List.set_cons_zero, List.set_cons_succ, List.drop, List.length]
        have hb3 := hC1
        have hs3 := hb3.size; have k0 := (hb3.cell (p := ⟨b, o + i, none⟩) (by show b < _; omega)).trans c0; have k1 := (hb3.cell (p := ⟨b, o + (i + 1), none⟩) (by show b < _; omega)).trans c1; have k2 := (hb3.cell (p := ⟨b, o + (i + 2), none⟩) (by show b < _; omega)).trans c2
        go_wp2
        exact Flow.post_det hb3 (Grow.refl _) rfl rfl
      apply Flow.det_step
      · go_light
        intro w1 hC1
        simp only [Flow.fill, Flow.after, Flow.at_, List.nil_append, List.cons_append, List.getD_cons_zero, List.getD_cons_succ, det, forall_eq, List.setIfInBounds_toArray, List.set_cons_zero, List.set_cons_succ, List.drop, List.length]
        have hb3 := hC1
        have hs3 := hb3.size; have k0 := (hb3.cell (p := ⟨b, o + i, none⟩) (by show b < _; omega)).trans c0; have k1 := (hb3.cell (p := ⟨b, o + (i + 1), none⟩) (by show b < _; omega)).trans c1; have k2 := (hb3.cell (p := ⟨b, o + (i + 2), none⟩) (by show b < _; omega)).trans c2
        go_wp2
        exact Flow.post_det hb3 (Grow.refl _) rfl rfl
      apply Flow.det_step
      · go_light
        intro w1 hC1
        simp only [Flow.fill, Flow.after, Flow.at_, List.nil_append, List.cons_append, List.getD_cons_zero, List.getD_cons_succ, det, forall_eq, List.setIfInBounds_toArray, List.set_cons_zero, List.set_cons_succ, List.drop, List.length]
        have hb3 := hC1
        have hs3 := hb3.size; have k0 := (hb3.cell (p := ⟨b, o + i, none⟩) (by show b < _; omega)).trans c0; have k1 := (hb3.cell (p := ⟨b, o + (i + 1), none⟩) (by show b < _; omega)).trans c1; have k2 := (hb3.cell (p := ⟨b, o + (i + 2), none⟩) (by show b < _; omega)).trans c2
        go_wp2
        exact Flow.post_det hb3 (Grow.refl _) rfl rfl
      refine Flow.st_step (ptr4 wr.heap.size) ?_ ?_
      · go_light
        intro w1 hC1
        simp only [Flow.fill, Flow.after, Flow.at_, List.nil_append, List.cons_append, List.getD_cons_zero, List.getD_cons_succ, det, forall_eq, List.setIfInBounds_toArray, List.set_cons_zero, List.set_cons_succ, List.drop, List.length]
        have hb3 := hC1
        have hs3 := hb3.size; have k0 := (hb3.cell (p := ⟨b, o + i, none⟩) (by show b < _; omega)).trans c0; have k1 := (hb3.cell (p := ⟨b, o + (i + 1), none⟩) (by show b < _; omega)).trans c1; have k2 := (hb3.cell (p := ⟨b, o + (i + 2), none⟩) (by show b < _; omega)).trans c2
        go_wp2
        exact Flow.post_st (hb3.alloc (by exact hb3.size) _) (Grow.alloc _ _) rfl rfl ⟨_, rfl, hb3.size, by simp, heap_alloc_new _ _⟩
      intro w1 hC1
      simp only [Flow.fill, Flow.after, Flow.at_, List.nil_append, List.cons_append, List.getD_cons_zero, List.getD_cons_succ, det, forall_eq, List.setIfInBounds_toArray, List.set_cons_zero, List.set_cons_succ, List.drop, List.length]
      rintro _ ⟨g6, rfl, hg6, hg6l, hcs6⟩
      have hb3 := hC1
      have hs3 := hb3.size
      obtain ⟨m0, m1, m2, m3⟩ := row4 hcs6
      obtain ⟨f0, f1, f2, f3⟩ := row4f hcs6
      subst e2
      subst e3
      rw [← e0, ← e1]
      clear e0 e1 c0 c1 c2 ha r0 r1 r2 hh
      have ho1 := own_keep hown hb3
      have hne := own_ne hown hg6
      have ho4 := ho1.kept (grown4 w1 g6 0 (.int .i64 r.k) (.int .i64 r.c) (.int .i64 r.t) (.int .i64 r.o)) (.inr hne)
      have hrow := set4_row (a := .int .i64 r.k) (b := .int .i64 r.c) (c := .int .i64 r.t) (d := .int .i64 r.o) hcs6
      have hbw1 : Below w.heap.size w w1 := hbw.trans (hb3.mono hbw.size)
      have hb4 : Below w.heap.size w _ := hbw1.grown (grown4 w1 g6 0 (.int .i64 r.k) (.int .i64 r.c) (.int .i64 r.t) (.int .i64 r.o)) hbw1.size (fun k hk => by injection hk with hk; subst hk; exact Nat.le_trans hbw.size hg6)
      clear hcs6 ho1 hb3 hC1 hbw1 hne
      go_wp2_with fail
      refine (check_any r _).mono ?_
      rintro e w5 ⟨rfl, hb5⟩
      have hb5' : Below (set4 w1 g6 0 (.int .i64 r.k) (.int .i64 r.c) (.int .i64 r.t) (.int .i64 r.o)).heap.size (set4 w1 g6 0 (.int .i64 r.k) (.int .i64 r.c) (.int .i64 r.t) (.int .i64 r.o)) w5 := hb5
      have hrow5 := (hb5'.block g6 (Array.getElem?_eq_some_iff.1 hrow).1).trans hrow
      have ho5 := own_keep ho4 hb5'
      have hbw5 := hb4.trans (hb5'.mono hb4.size)
      clear m0 m1 m2 m3 f0 f1 f2 f3 hb5 hb5' hrow ho4 hb4
      obtain ⟨m0, m1, m2, m3⟩ := row4 hrow5
      clear hrow5
      by_cases he : r.err = 0
      · go_wp2_with (at_builtin; refine wpList_append_reads _ rfl (.tmp 53) (.tmp 55) _ rfl w.heap.size 24 i0 _ 4 32 Try.underlying22 hi0 hz0 hz1 hz2 rfl (by omega) _ k _ rfl (ho5.alloc _) _ (some ⟨w5.heap.size, 0, none⟩) 1 1 r.cells rfl (reads_new4 w5 r 24) (rc_oneCell r) (by simp only [maxLen]; omega) (by omega) (by simp; exact Nat.le_succ_of_le hbw5.size) ?_; intro v4 w6 hown6 hgr6 hob6)
        go_roundw
        case rel => exact ⟨k + 1, by omega, by rw [HI.out]; congr 1, DecRel.next HG.out (by rw [HR.out]; exact he) (hbw5.alloc hbw5.size _) hown (by rw [HR.out]; exact hown6) hgr6⟩
        case measure => simp [intOf]; omega
      · have he' : (r.err != 0) = true := by simpa using he
        have hfin := Lib.hid (recsErr_at (q := q) (by rw [HL.out, HN.out]) (by rw [HL.out]; exact hbig) hlt HG.out (by rw [HR.out]; exact he))
        go_wp2
        go_ret2
        exact .bad (by rw [hfin.out, HR.out]) he hbw5
    · obtain rfl : k = q := by omega
      have hfin := Lib.hid (recsErr_all (q := k) (by rw [HL.out, HN.out]) (by rw [HL.out]; exact hbig) HG.out)
      have hq3 := Lib.hid (show xs.length / 3 = k by rw [HL.out, ← HN.out]; omega)
      obtain ⟨A', c', rfl, -⟩ := own_shape hown
      have hN' := HN.out
      rw [hN']
      go_wp2
      go_ret2
      exact .good hfin.out (by rw [hq3.out]; exact ⟨Reads.of_own hown, recs_len _ _⟩) hbw
end Go.Proofs.Ytjdbclcafjlohaa
