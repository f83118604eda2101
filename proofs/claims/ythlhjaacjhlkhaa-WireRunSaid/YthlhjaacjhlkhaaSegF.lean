/- Contracts of seg.word, seg.Decode, ringref4.SegOf, ringlaw4.sameSeg. -/
import Derived.Test.YthlhjaacjhlkhaaSegE
namespace Go.Proofs.Ythlhjaacjhlkhaa
open Go.RowKit
set_option maxHeartbeats 400000
set_option linter.unusedVariables false
set_option linter.unusedSimpArgs false
def wordI (xs : List Int) : Int := xs.getD 0 0 * 16777216 + xs.getD 1 0 * 65536 + xs.getD 2 0 * 256 + xs.getD 3 0
theorem u32_join (i : Nat) (x y : Int) (hi : i ≤ 32) (hx₀ : 0 ≤ x) (hx : x % 2 ^ i = 0) (hx₁ : x < 4294967296) (hy₀ : 0 ≤ y) (hy : y < 2 ^ i) (hy1 : y < 4294967296) : bits .or .u32 x y = x + y :=
  bits_join .u32 32 (by decide) (fun n h0 h1 => by rw [IntKind.wrap_u32]; omega) i x y hx₀ hx hx₁ hy₀ hy hy1
theorem word_any (A : Option Addr) (n c : Nat) (xs : List Int) (w : World) (B : Nat) (h : RB w B A n xs) (hB : B ≤ w.heap.size) (hn : 4 ≤ n) :
    Calls Try.prog 85 #[.slice A n c] w fun e w' => e = .returned (.int .u32 (wordI xs)) ∧ Below w.heap.size w w' := by
  obtain ⟨b, o, rfl, hb, hc0, -⟩ := h.at_ (k := 0) (by omega)
  rw [Nat.add_zero] at hc0
  have r0 := h.rng 0
  have r1 := h.rng 1
  have r2 := h.rng 2
  have r3 := h.rng 3
  have g1 := h.cells 1 (by omega)
  have g2 := h.cells 2 (by omega)
  have g3 := h.cells 3 (by omega)
  have hbw : b < w.heap.size := by omega
  unfold wordI
  generalize xs.getD 0 0 = y0 at *
  generalize xs.getD 1 0 = y1 at *
  generalize xs.getD 2 0 = y2 at *
  generalize xs.getD 3 0 = y3 at *
  have hn0 : (0 : Int) < n := by omega
  have hn1 : (1 : Int) < n := by omega
  have hn2 : (2 : Int) < n := by omega
  have hn3 : (3 : Int) < n := by omega
  go_enter Try.func85, Try.ntmps85
  go_wp2
  refine wp_region_near w.heap.size (by kernel_rfl) (by kernel_rfl) ?_
  repeat (go_big_quiet_step (fail))
  refine wpQuiet_nil ?_
  intro w1 hb1
  go_wp2
  go_ret
  refine ⟨ret_int ?_, hb1⟩
  rw [u32_join 24 (y0 * 16777216) (y1 * 65536) (by decide) (by omega) (by omega) (by omega) (by omega) (by omega) (by omega), u32_join 16 _ (y2 * 256) (by decide) (by omega) (by omega) (by omega) (by omega) (by omega) (by omega),
    u32_join 8 _ y3 (by decide) (by omega) (by omega) (by omega) (by omega) (by omega) (by omega)]
def plainI (xs : List Int) : List Int := xs.take 12 ++ [0, 0] ++ xs.drop 14
theorem plain_set (xs : List Int) (h : 14 ≤ xs.length) : (xs.set 12 0).set 13 0 = plainI xs := by
  unfold plainI
  match xs, h with
  | a0 :: a1 :: a2 :: a3 :: a4 :: a5 :: a6 :: a7 :: a8 :: a9 :: a10 :: a11 :: a12 :: a13 :: r, _ => rfl
theorem _root_.Go.RB.cut_some {w : World} {B n b o k : Nat} {xs : List Int} (h : RB w B (some ⟨b, o, none⟩) n xs) (hk : k ≤ n) : RB w B (some ⟨b, o + k, none⟩) (n - k) (xs.drop k) := by
  refine ⟨⟨by simp [h.len], fun hn => ?_⟩, fun x hx => h.2 x (List.mem_of_mem_drop hx)⟩
  obtain ⟨b', o', e, hb, hc⟩ := h.1.2 (by omega)
  simp at e
  obtain ⟨rfl, rfl⟩ := e
  exact ⟨b, o + k, rfl, hb, fun j u hu => by rw [Nat.add_assoc]; exact hc _ u (by rw [List.map_drop, List.getElem?_drop] at hu; exact hu)⟩
/-- A slice of bytes that reads as xs. -/
def rbSt (n : Nat) (xs : List Int) : St := ⟨fun v W => ∃ A c, v = .slice A n c ∧ RB W W.heap.size A n xs, fun v W W' hh hg => by obtain ⟨A, c, h1, h2⟩ := hh; exact ⟨A, c, h1, (h2.below' hg (Nat.le_refl _)).more hg.size⟩⟩
theorem below5 {B : Nat} {w W : World} (h : Below B w W) {k : Nat} (hk : B ≤ k) (a b c d e : Value) : Below B w (((((W.setCell ⟨k, 0, none⟩ a).setCell ⟨k, 1, none⟩ b).setCell ⟨k, 2, none⟩ c).setCell ⟨k, 3, none⟩ d).setCell ⟨k, 4, none⟩ e) :=
  ((((h.setCell (p := ⟨k, 0, none⟩) hk a).setCell (p := ⟨k, 1, none⟩) hk b).setCell (p := ⟨k, 2, none⟩) hk c).setCell (p := ⟨k, 3, none⟩) hk d).setCell (p := ⟨k, 4, none⟩) hk e
theorem row5 {w : World} {g : Nat} {c0 c1 c2 c3 c4 : Value} {t : TypeId} (h : w.heap[g]? = some (.cells #[c0, c1, c2, c3, c4] t (0, 0))) :
    w.cell? ⟨g, 0, none⟩ = some c0 ∧ w.cell? ⟨g, 1, none⟩ = some c1 ∧ w.cell? ⟨g, 2, none⟩ = some c2 ∧ w.cell? ⟨g, 3, none⟩ = some c3 ∧ w.cell? ⟨g, 4, none⟩ = some c4 := by
  refine ⟨?_, ?_, ?_, ?_, ?_⟩
  all_goals (rw [cell_of_row w g _ _ t (0, 0) h]; rfl)
theorem row5f {w : World} {g : Nat} {cs : Array Value} {t : TypeId} (h : w.heap[g]? = some (.cells cs t (0, 0))) :
    w.frozen? ⟨g, 0, none⟩ = false ∧ w.frozen? ⟨g, 1, none⟩ = false ∧ w.frozen? ⟨g, 2, none⟩ = false ∧ w.frozen? ⟨g, 3, none⟩ = false ∧ w.frozen? ⟨g, 4, none⟩ = false :=
  ⟨frozen_of_row w g _ cs t h, frozen_of_row w g _ cs t h, frozen_of_row w g _ cs t h, frozen_of_row w g _ cs t h, frozen_of_row w g _ cs t h⟩
theorem own_row_ne {w : World} {base : Nat} {e t : TypeId} {size n g : Nat} {v : Value} {xs : List Value} {cs : Array Value} (h : w.ownsRow base e size v n xs) (hg : w.heap[g]? = some (.cells cs t (0, 0))) (hne : e ≠ t) : v.ownBlock ≠ some g := by
  rcases h.2 with ⟨rfl, _⟩ | ⟨g', cap, cur, rfl, _, hh, _⟩
  · simp [Value.ownBlock]
  · intro he
    have : g' = g := by simpa [Value.ownBlock] using he
    subst this
    rw [hg] at hh
    injection hh with hh
    injection hh with _ ht
    exact hne ht.symm
theorem grown_set (a w : World) (g : Nat) (h : a.grownBy w (some g)) (o : Nat) (u : Value) : a.grownBy (w.setCell ⟨g, o, none⟩ u) (some g) :=
  ⟨h.os, h.tape, h.output, by simpa [World.setCell] using h.size, fun i hi hne => (Below.heap_setCell w ⟨g, o, none⟩ u i (fun e => hne (by rw [e]))).trans (h.block i hi hne)⟩
theorem grown5 (w : World) (k : Nat) (a b c d e : Value) : w.grownBy (((((w.setCell ⟨k, 0, none⟩ a).setCell ⟨k, 1, none⟩ b).setCell ⟨k, 2, none⟩ c).setCell ⟨k, 3, none⟩ d).setCell ⟨k, 4, none⟩ e) (some k) :=
  grown_set _ _ _ (grown_set _ _ _ (grown_set _ _ _ (grown_set _ _ _ (grown_set _ _ _ (World.grownBy.refl w _) 0 a) 1 b) 2 c) 3 d) 4 e
theorem row_set {w : World} {g : Nat} {cs : Array Value} {t : TypeId} (h : w.heap[g]? = some (.cells cs t (0, 0))) (i : Nat) (u : Value) : (w.setCell ⟨g, i, none⟩ u).heap[g]? = some (.cells (cs.setIfInBounds i u) t (0, 0)) := by
  simp [World.setCell, Array.getElem?_modify, h]
theorem set5 {w : World} {g : Nat} {c0 c1 c2 c3 c4 a b c d e : Value} {t : TypeId} (h : w.heap[g]? = some (.cells #[c0, c1, c2, c3, c4] t (0, 0))) :
    (((((w.setCell ⟨g, 0, none⟩ a).setCell ⟨g, 1, none⟩ b).setCell ⟨g, 2, none⟩ c).setCell ⟨g, 3, none⟩ d).setCell ⟨g, 4, none⟩ e).heap[g]? = some (.cells #[a, b, c, d, e] t (0, 0)) :=
  row_set (row_set (row_set (row_set (row_set h 0 a) 1 b) 2 c) 3 d) 4 e
theorem box5f {w w1 : World} {c0 c1 c2 c3 c4 : Value} {t : TypeId} (hb : Below (w.heap.size + 1) (w.alloc (.cells #[c0, c1, c2, c3, c4] t)) w1) :
    w1.frozen? ⟨w.heap.size, 0, none⟩ = false ∧ w1.frozen? ⟨w.heap.size, 1, none⟩ = false ∧ w1.frozen? ⟨w.heap.size, 2, none⟩ = false ∧ w1.frozen? ⟨w.heap.size, 3, none⟩ = false ∧ w1.frozen? ⟨w.heap.size, 4, none⟩ = false := by
  refine ⟨?_, ?_, ?_, ?_, ?_⟩
  all_goals (rw [hb.frozen (by simp)]; simp [go_sem])
/-- What the bytes of a segment are read as: the two words, flags, window, data, the error (P50.4). -/
structure Dec where
  seq : Int
  ack : Int
  flags : Int
  window : Int
  data : List Int
  err : Int
def Dec.bad (e : Int) : Dec := ⟨0, 0, 0, 0, [], e⟩
def decI (xs : List Int) : Dec :=
  if xs.length < 14 then .bad 21 else
  if (xs.length : Int) < 14 + xs.getD 10 0 then .bad 21 else
  if 14 + xs.getD 10 0 < (xs.length : Int) ∨ xs.getD 11 0 ≠ 0 then .bad 3 else
  if xs.getD 12 0 * 256 + xs.getD 13 0 ≠ sumI (plainI xs) then .bad 20 else
  if checkI (xs.getD 8 0) (xs.getD 9 0) (xs.length - 14) ≠ 0 then .bad (checkI (xs.getD 8 0) (xs.getD 9 0) (xs.length - 14)) else
  ⟨wordI xs, wordI (xs.drop 4), xs.getD 8 0, xs.getD 9 0, xs.drop 14, 0⟩
def DecPost (w : World) (r : Dec) (e : Ending) (w' : World) : Prop :=
  ∃ A m c, e = .returned (.tuple #[.agg #[.int .u32 r.seq, .int .u32 r.ack, .int .i64 r.flags, .int .i64 r.window, .slice A m c], .int .i64 r.err]) ∧ RB w' w'.heap.size A m r.data ∧ Below w.heap.size w w'
theorem DecPost.of_bad {w w' : World} {e : Int} (hb : Below w.heap.size w w') : DecPost w (.bad e) (.returned (.tuple #[.agg #[.int .u32 0, .int .u32 0, .int .i64 0, .int .i64 0, .slice none 0 0], .int .i64 e])) w' :=
  ⟨none, 0, 0, rfl, ⟨Reads.none_, fun x hx => by simp [Dec.bad] at hx⟩, hb⟩
/-- What is decoded lies in new blocks. -/
def DecNew (w : World) (r : Dec) (e : Ending) (w' : World) : Prop :=
  ∃ A m c, e = .returned (.tuple #[.agg #[.int .u32 r.seq, .int .u32 r.ack, .int .i64 r.flags, .int .i64 r.window, .slice A m c], .int .i64 r.err]) ∧ RB w' w'.heap.size A m r.data ∧ Below w.heap.size w w' ∧ FreshV w A m c
theorem DecNew.of_bad {w w' : World} {e : Int} (hb : Below w.heap.size w w') : DecNew w (.bad e) (.returned (.tuple #[.agg #[.int .u32 0, .int .u32 0, .int .i64 0, .int .i64 0, .slice none 0 0], .int .i64 e])) w' :=
  ⟨none, 0, 0, rfl, ⟨Reads.none_, fun x hx => by simp [Dec.bad] at hx⟩, hb, FreshV.none _⟩
theorem DecNew.post {w w' : World} {r : Dec} {e : Ending} (h : DecNew w r e w') : DecPost w r e w' := by
  obtain ⟨A, m, c, h1, h2, h3, _⟩ := h
  exact ⟨A, m, c, h1, h2, h3⟩
theorem decode_1 (A : Option Addr) (n c : Nat) (xs : List Int) (w : World) (h : RB w w.heap.size A n xs) (hn : n < 14) : Calls Try.prog 21 #[.slice A n c] w (DecNew w (.bad 21)) := by
  go_enter Try.func21, Try.ntmps21
  go_wp2
  exact bodyPost_ret (v := .tuple #[.agg #[.int .u32 0, .int .u32 0, .int .i64 0, .int .i64 0, .slice none 0 0], .int .i64 21]) (by simp [results, Try.results21, go_sem]) rfl (.of_bad ((Below.refl _ _).alloc (Nat.le_refl _) _))
theorem decode_2 (n c : Nat) (xs : List Int) (w : World) (b o : Nat) (h : RB w w.heap.size (some ⟨b, o, none⟩) n xs) (hn : 14 ≤ n) (hc : n ≤ c) (hcm : c ≤ 9223372036854775807) (hb : b < w.heap.size) (h2 : (n : Int) < 14 + xs.getD 10 0) : Calls Try.prog 21 #[.slice (some ⟨b, o, none⟩) n c] w (DecNew w (.bad 21)) := by
  have g10 := h.cells 10 (by omega)
  have r10 := h.rng 10
  have hn10 : (10 : Int) < n := by omega
  generalize xs.getD 10 0 = y10 at *
  go_enter Try.func21, Try.ntmps21
  go_wp2
  exact bodyPost_ret (v := .tuple #[.agg #[.int .u32 0, .int .u32 0, .int .i64 0, .int .i64 0, .slice none 0 0], .int .i64 21]) (by simp [results, Try.results21, go_sem]) rfl (.of_bad ((Below.refl _ _).alloc (Nat.le_refl _) _))
theorem decode_3 (n c : Nat) (xs : List Int) (w : World) (b o : Nat) (h : RB w w.heap.size (some ⟨b, o, none⟩) n xs) (hn : 14 ≤ n) (hc : n ≤ c) (hcm : c ≤ 9223372036854775807) (hb : b < w.heap.size) (h2 : ¬ (n : Int) < 14 + xs.getD 10 0)
    (h3 : 14 + xs.getD 10 0 < (n : Int) ∨ xs.getD 11 0 ≠ 0) : Calls Try.prog 21 #[.slice (some ⟨b, o, none⟩) n c] w (DecNew w (.bad 3)) := by
  have g10 := h.cells 10 (by omega)
  have r10 := h.rng 10
  have g11 := h.cells 11 (by omega)
  have hn10 : (10 : Int) < n := by omega
  have hn11 : (11 : Int) < n := by omega
  generalize xs.getD 10 0 = y10 at *
  generalize xs.getD 11 0 = y11 at *
  by_cases h4 : 14 + y10 < (n : Int)
  · go_enter Try.func21, Try.ntmps21
    go_wp2
    exact bodyPost_ret (v := .tuple #[.agg #[.int .u32 0, .int .u32 0, .int .i64 0, .int .i64 0, .slice none 0 0], .int .i64 3]) (by simp [results, Try.results21, go_sem]) rfl (.of_bad ((Below.refl _ _).alloc (Nat.le_refl _) _))
  · have h5 : (y11 != 0) = true := by simp; omega
    clear h3
    go_enter Try.func21, Try.ntmps21
    go_wp2
    exact bodyPost_ret (v := .tuple #[.agg #[.int .u32 0, .int .u32 0, .int .i64 0, .int .i64 0, .slice none 0 0], .int .i64 3]) (by simp [results, Try.results21, go_sem]) rfl (.of_bad ((Below.refl _ _).alloc (Nat.le_refl _) _))
set_option maxHeartbeats 4000000 in
set_option maxRecDepth 100000 in
theorem decode_4 (n c : Nat) (xs : List Int) (w : World) (b o : Nat) (h : RB w w.heap.size (some ⟨b, o, none⟩) n xs) (hn : 14 ≤ n) (hnb : n ≤ 1000) (hc : n ≤ c) (hcm : c ≤ 9223372036854775807) (hb : b < w.heap.size) (h2 : (n : Int) = 14 + xs.getD 10 0)
    (h3 : xs.getD 11 0 = 0) (r : Dec) (hr : r = if xs.getD 12 0 * 256 + xs.getD 13 0 ≠ sumI (plainI xs) then .bad 20 else
  if checkI (xs.getD 8 0) (xs.getD 9 0) (xs.length - 14) ≠ 0 then .bad (checkI (xs.getD 8 0) (xs.getD 9 0) (xs.length - 14)) else
  ⟨wordI xs, wordI (xs.drop 4), xs.getD 8 0, xs.getD 9 0, xs.drop 14, 0⟩) : Calls Try.prog 21 #[.slice (some ⟨b, o, none⟩) n c] w (DecNew w r) := by
  have g10 := h.cells 10 (by omega)
  have r10 := h.rng 10
  have g11 := h.cells 11 (by omega)
  rw [h3] at g11
  have h2' : ¬ (n : Int) < 14 + xs.getD 10 0 := by omega
  have h2'' : ¬ 14 + xs.getD 10 0 < (n : Int) := by omega
  have hn10 : (10 : Int) < n := by omega
  have hn11 : (11 : Int) < n := by omega
  have HR := Lib.hid hr
  have H2 := Lib.hid h2
  have H3 := Lib.hid h3
  clear hr h2 h3
  have hl := Lib.hid h.len
  generalize xs.getD 10 0 = y10 at *
  go_enter Try.func21, Try.ntmps21
  go_wp2_with fail
  refine (clone_any _ _ _ xs _ w.heap.size (h.alloc (Nat.le_refl _) _) (by simp) (by omega)).mono ?_
  rintro e w1 ⟨v, rfl, hown, hb1⟩
  simp only [World.size_alloc] at hown hb1
  obtain ⟨g, cap, ev, hgb, hglt⟩ := hown.form (by omega)
  subst ev
  have s1 := hown.stored 12 (.int .u8 0)
  have s2 := s1.1.stored 13 (.int .u8 0)
  have hE : ((xs.map (Value.int .u8)).set 12 (.int .u8 0)).set 13 (.int .u8 0) = (plainI xs).map (Value.int .u8) := by
    have := plain_set xs (by rw [hl.out]; exact hn)
    rw [← this]
    simp only [List.map_set]
  rw [hE] at s2
  have hpb : Byt (plainI xs) := by
    intro y hy
    simp only [plainI, List.mem_append] at hy
    rcases hy with (hy | hy) | hy
    · exact h.2 y (List.mem_of_mem_take hy)
    · simp at hy; omega
    · exact h.2 y (List.mem_of_mem_drop hy)
  have hrP := RB.of_own s2.1 hpb
  have e12 : w1.cell? ⟨g, 12, none⟩ = some (.int .u8 (xs.getD 12 0)) := (RB.of_own hown h.2).cells' 12 (by omega)
  have e13 : w1.cell? ⟨g, 13, none⟩ = some (.int .u8 (xs.getD 13 0)) := (RB.of_own hown h.2).cells' 13 (by omega)
  have f12 := hown.frozenAt 12
  have f13 := hown.frozenAt 13
  have hb2 : Below (w.heap.size + 1) (w.alloc (.cells #[.int .u32 0, .int .u32 0, .int .i64 0, .int .i64 0, .slice none 0 0] 25)) ((w1.setCell ⟨g, 12, none⟩ (.int .u8 0)).setCell ⟨g, 13, none⟩ (.int .u8 0)) := (hb1.setCell (by exact hgb) _).setCell (by exact hgb) _
  have hnn : (13 : Int) < n := by omega
  have hnn2 : (12 : Int) < n := by omega
  have hs := sum_range _ hpb
  have hsz2 := hb2.size
  simp only [World.size_alloc] at hsz2
  clear s1 s2 hE hown
  go_wp2_with fail
  obtain ⟨w2, hw2⟩ : ∃ w2, w2 = ((w1.setCell ⟨g, 12, none⟩ (.int .u8 0)).setCell ⟨g, 13, none⟩ (.int .u8 0)) := ⟨_, rfl⟩
  rw [← hw2] at hrP hb2 hsz2 ⊢
  clear hw2 e12 e13 f12 f13 hb1 hglt
  refine (sum_any _ _ _ _ _ hrP (by unfold maxLen; omega)).mono ?_
  rintro e w3 ⟨rfl, rfl⟩
  have hbw2 : Below w.heap.size w w2 := ((Below.refl _ _).alloc (Nat.le_refl _) _).trans (hb2.mono (by omega))
  have hr2 := h.below' hbw2 (Nat.le_refl _)
  have g12 := hr2.cells 12 (by omega)
  have g13 := hr2.cells 13 (by omega)
  have r12 := h.rng 12
  have r13 := h.rng 13
  obtain ⟨k0, k1, k2, k3, k4⟩ := box5 hb2
  obtain ⟨z0, z1, z2, z3, z4⟩ := box5f hb2
  obtain ⟨S, hS⟩ : ∃ S, S = sumI (plainI xs) := ⟨_, rfl⟩
  have hr0 := HR.out
  rw [← hS] at hs hr0 ⊢
  have q1 : S / 256 % 256 = S / 256 := by omega
  generalize xs.getD 12 0 = y12 at *
  generalize xs.getD 13 0 = y13 at *
  by_cases hsum : y12 * 256 + y13 ≠ S
  · rw [if_pos hsum] at hr0
    clear HR hS
    subst hr0
    clear g10 g11
    by_cases h12 : y12 = S / 256
    · have hc12 : (y12 != S / 256) = false := by simpa using h12
      have hc13 : (y13 != S % 256) = true := by simp; omega
      clear h12 hsum
      go_wp2
      exact bodyPost_ret (v := .tuple #[.agg #[.int .u32 0, .int .u32 0, .int .i64 0, .int .i64 0, .slice none 0 0], .int .i64 20]) (by simp [results, Try.results21, go_sem, k0, k1, k2, k3, k4]) rfl (.of_bad (below5 hbw2 (Nat.le_refl _) _ _ _ _ _))
    · have hc12 : (y12 != S / 256) = true := by simpa using h12
      clear h12 hsum
      go_wp2
      exact bodyPost_ret (v := .tuple #[.agg #[.int .u32 0, .int .u32 0, .int .i64 0, .int .i64 0, .slice none 0 0], .int .i64 20]) (by simp [results, Try.results21, go_sem, k0, k1, k2, k3, k4]) rfl (.of_bad (below5 hbw2 (Nat.le_refl _) _ _ _ _ _))
  · rw [if_neg hsum] at hr0
    have hc12 : (y12 != S / 256) = false := by simp; omega
    have hc13 : (y13 != S % 256) = false := by simp; omega
    clear hsum HR hS
    go_wp2
    have g8 := hr2.cells 8 (by omega)
    have g9 := hr2.cells 9 (by omega)
    have r8 := h.rng 8
    have r9 := h.rng 9
    have hn8 : (8 : Int) < n := by omega
    have hn9 : (9 : Int) < n := by omega
    have hr4 := hr2.cut_some (k := 4) (by omega)
    generalize xs.getD 8 0 = y8 at *
    generalize xs.getD 9 0 = y9 at *
    clear g10 g11 g12 g13 hc12 hc13 k0 k1 k2 k3 k4 z0 z1 z2 z3 z4 hrP hn10 hn11 q1
    refine wp_region_walk (fun w' => Below w2.heap.size w2 w') [[], [(61, 0)], [], [(63, 2)], [(64, 3)], [], [(66, 5)], [(67, 6)], [(68, 7)], [], [(70, 9)], [(71, 10)], [(72, 11)], [], [(74, 13)], [(75, 14)], [(62, 1), (65, 4), (69, 8), (73, 12), (76, 15)], []]
      [(61, 0), (62, 1), (63, 2), (64, 3), (65, 4), (66, 5), (67, 6), (68, 7), (69, 8), (70, 9), (71, 10), (72, 11), (73, 12), (74, 13), (75, 14), (76, 15), (77, 16), (6, 17)] (by kernel_rfl) (by kernel_rfl) (by kernel_rfl) (Below.refl _ _).drew ?_
    apply Flow.det_step
    · go_light
      intro w1 hC1
      simp only [Flow.fill, Flow.after, Flow.at_, List.nil_append, List.cons_append, List.getD_cons_zero, List.getD_cons_succ, det, forall_eq, List.setIfInBounds_toArray, List.set_cons_zero, List.set_cons_succ, List.drop, List.length]
      have hb3 := hC1
      have hs3 := hb3.size; have k8 := (hb3.cell (p := ⟨b, o + 8, none⟩) (by show b < _; omega)).trans g8; have k9 := (hb3.cell (p := ⟨b, o + 9, none⟩) (by show b < _; omega)).trans g9
      go_wp2
      exact Flow.post_det hb3 (Grow.refl _) rfl rfl
    apply Flow.det_step
    · go_light
      intro w1 hC1
      simp only [Flow.fill, Flow.after, Flow.at_, List.nil_append, List.cons_append, List.getD_cons_zero, List.getD_cons_succ, det, forall_eq, List.setIfInBounds_toArray, List.set_cons_zero, List.set_cons_succ, List.drop, List.length]
      have hb3 := hC1
      have hs3 := hb3.size; have k8 := (hb3.cell (p := ⟨b, o + 8, none⟩) (by show b < _; omega)).trans g8; have k9 := (hb3.cell (p := ⟨b, o + 9, none⟩) (by show b < _; omega)).trans g9
      go_wp2_with (go_at_call 85; refine (word_any _ n c xs _ w.heap.size (hr2.below' hb3 (by omega)) (by omega) (by omega)).mono ?_; rintro e w4 ⟨rfl, hg2⟩)
      exact Flow.post_det (hb3.trans (hg2.mono hb3.size)) hg2 rfl rfl
    apply Flow.det_step
    · go_light
      intro w1 hC1
      simp only [Flow.fill, Flow.after, Flow.at_, List.nil_append, List.cons_append, List.getD_cons_zero, List.getD_cons_succ, det, forall_eq, List.setIfInBounds_toArray, List.set_cons_zero, List.set_cons_succ, List.drop, List.length]
      have hb3 := hC1
      have hs3 := hb3.size; have k8 := (hb3.cell (p := ⟨b, o + 8, none⟩) (by show b < _; omega)).trans g8; have k9 := (hb3.cell (p := ⟨b, o + 9, none⟩) (by show b < _; omega)).trans g9
      go_wp2
      exact Flow.post_det hb3 (Grow.refl _) rfl rfl
    apply Flow.det_step
    · go_light
      intro w1 hC1
      simp only [Flow.fill, Flow.after, Flow.at_, List.nil_append, List.cons_append, List.getD_cons_zero, List.getD_cons_succ, det, forall_eq, List.setIfInBounds_toArray, List.set_cons_zero, List.set_cons_succ, List.drop, List.length]
      have hb3 := hC1
      have hs3 := hb3.size; have k8 := (hb3.cell (p := ⟨b, o + 8, none⟩) (by show b < _; omega)).trans g8; have k9 := (hb3.cell (p := ⟨b, o + 9, none⟩) (by show b < _; omega)).trans g9
      have hc4 : ¬ c = 4 := by omega
      have hi4 : (4 : Int) ≤ n := by omega
      go_wp2
      exact Flow.post_det hb3 (Grow.refl _) rfl rfl
    apply Flow.det_step
    · go_light
      intro w1 hC1
      simp only [Flow.fill, Flow.after, Flow.at_, List.nil_append, List.cons_append, List.getD_cons_zero, List.getD_cons_succ, det, forall_eq, List.setIfInBounds_toArray, List.set_cons_zero, List.set_cons_succ, List.drop, List.length]
      have hb3 := hC1
      have hs3 := hb3.size; have k8 := (hb3.cell (p := ⟨b, o + 8, none⟩) (by show b < _; omega)).trans g8; have k9 := (hb3.cell (p := ⟨b, o + 9, none⟩) (by show b < _; omega)).trans g9
      go_wp2_with (go_at_call 85; refine (word_any _ (n - 4) (c - 4) (xs.drop 4) _ w.heap.size (hr4.below' hb3 (by omega)) (by omega) (by omega)).mono ?_; rintro e w4 ⟨rfl, hg2⟩)
      exact Flow.post_det (hb3.trans (hg2.mono hb3.size)) hg2 rfl rfl
    apply Flow.det_step
    · go_light
      intro w1 hC1
      simp only [Flow.fill, Flow.after, Flow.at_, List.nil_append, List.cons_append, List.getD_cons_zero, List.getD_cons_succ, det, forall_eq, List.setIfInBounds_toArray, List.set_cons_zero, List.set_cons_succ, List.drop, List.length]
      have hb3 := hC1
      have hs3 := hb3.size; have k8 := (hb3.cell (p := ⟨b, o + 8, none⟩) (by show b < _; omega)).trans g8; have k9 := (hb3.cell (p := ⟨b, o + 9, none⟩) (by show b < _; omega)).trans g9
      go_wp2
      exact Flow.post_det hb3 (Grow.refl _) rfl rfl
    apply Flow.det_step
    · go_light
      intro w1 hC1
      simp only [Flow.fill, Flow.after, Flow.at_, List.nil_append, List.cons_append, List.getD_cons_zero, List.getD_cons_succ, det, forall_eq, List.setIfInBounds_toArray, List.set_cons_zero, List.set_cons_succ, List.drop, List.length]
      have hb3 := hC1
      have hs3 := hb3.size; have k8 := (hb3.cell (p := ⟨b, o + 8, none⟩) (by show b < _; omega)).trans g8; have k9 := (hb3.cell (p := ⟨b, o + 9, none⟩) (by show b < _; omega)).trans g9
      go_wp2
      exact Flow.post_det hb3 (Grow.refl _) rfl rfl
    apply Flow.det_step
    · go_light
      intro w1 hC1
      simp only [Flow.fill, Flow.after, Flow.at_, List.nil_append, List.cons_append, List.getD_cons_zero, List.getD_cons_succ, det, forall_eq, List.setIfInBounds_toArray, List.set_cons_zero, List.set_cons_succ, List.drop, List.length]
      have hb3 := hC1
      have hs3 := hb3.size; have k8 := (hb3.cell (p := ⟨b, o + 8, none⟩) (by show b < _; omega)).trans g8; have k9 := (hb3.cell (p := ⟨b, o + 9, none⟩) (by show b < _; omega)).trans g9
      go_wp2
      exact Flow.post_det hb3 (Grow.refl _) rfl rfl
    apply Flow.det_step
    · go_light
      intro w1 hC1
      simp only [Flow.fill, Flow.after, Flow.at_, List.nil_append, List.cons_append, List.getD_cons_zero, List.getD_cons_succ, det, forall_eq, List.setIfInBounds_toArray, List.set_cons_zero, List.set_cons_succ, List.drop, List.length]
      have hb3 := hC1
      have hs3 := hb3.size; have k8 := (hb3.cell (p := ⟨b, o + 8, none⟩) (by show b < _; omega)).trans g8; have k9 := (hb3.cell (p := ⟨b, o + 9, none⟩) (by show b < _; omega)).trans g9
      go_wp2
      exact Flow.post_det hb3 (Grow.refl _) rfl rfl
    apply Flow.det_step
    · go_light
      intro w1 hC1
      simp only [Flow.fill, Flow.after, Flow.at_, List.nil_append, List.cons_append, List.getD_cons_zero, List.getD_cons_succ, det, forall_eq, List.setIfInBounds_toArray, List.set_cons_zero, List.set_cons_succ, List.drop, List.length]
      have hb3 := hC1
      have hs3 := hb3.size; have k8 := (hb3.cell (p := ⟨b, o + 8, none⟩) (by show b < _; omega)).trans g8; have k9 := (hb3.cell (p := ⟨b, o + 9, none⟩) (by show b < _; omega)).trans g9
      go_wp2
      exact Flow.post_det hb3 (Grow.refl _) rfl rfl
    apply Flow.det_step
    · go_light
      intro w1 hC1
      simp only [Flow.fill, Flow.after, Flow.at_, List.nil_append, List.cons_append, List.getD_cons_zero, List.getD_cons_succ, det, forall_eq, List.setIfInBounds_toArray, List.set_cons_zero, List.set_cons_succ, List.drop, List.length]
      have hb3 := hC1
      have hs3 := hb3.size; have k8 := (hb3.cell (p := ⟨b, o + 8, none⟩) (by show b < _; omega)).trans g8; have k9 := (hb3.cell (p := ⟨b, o + 9, none⟩) (by show b < _; omega)).trans g9
      go_wp2
      exact Flow.post_det hb3 (Grow.refl _) rfl rfl
    apply Flow.det_step
    · go_light
      intro w1 hC1
      simp only [Flow.fill, Flow.after, Flow.at_, List.nil_append, List.cons_append, List.getD_cons_zero, List.getD_cons_succ, det, forall_eq, List.setIfInBounds_toArray, List.set_cons_zero, List.set_cons_succ, List.drop, List.length]
      have hb3 := hC1
      have hs3 := hb3.size; have k8 := (hb3.cell (p := ⟨b, o + 8, none⟩) (by show b < _; omega)).trans g8; have k9 := (hb3.cell (p := ⟨b, o + 9, none⟩) (by show b < _; omega)).trans g9
      go_wp2
      exact Flow.post_det hb3 (Grow.refl _) rfl rfl
    apply Flow.det_step
    · go_light
      intro w1 hC1
      simp only [Flow.fill, Flow.after, Flow.at_, List.nil_append, List.cons_append, List.getD_cons_zero, List.getD_cons_succ, det, forall_eq, List.setIfInBounds_toArray, List.set_cons_zero, List.set_cons_succ, List.drop, List.length]
      have hb3 := hC1
      have hs3 := hb3.size; have k8 := (hb3.cell (p := ⟨b, o + 8, none⟩) (by show b < _; omega)).trans g8; have k9 := (hb3.cell (p := ⟨b, o + 9, none⟩) (by show b < _; omega)).trans g9
      go_wp2
      exact Flow.post_det hb3 (Grow.refl _) rfl rfl
    apply Flow.det_step
    · go_light
      intro w1 hC1
      simp only [Flow.fill, Flow.after, Flow.at_, List.nil_append, List.cons_append, List.getD_cons_zero, List.getD_cons_succ, det, forall_eq, List.setIfInBounds_toArray, List.set_cons_zero, List.set_cons_succ, List.drop, List.length]
      have hb3 := hC1
      have hs3 := hb3.size; have k8 := (hb3.cell (p := ⟨b, o + 8, none⟩) (by show b < _; omega)).trans g8; have k9 := (hb3.cell (p := ⟨b, o + 9, none⟩) (by show b < _; omega)).trans g9
      go_wp2
      exact Flow.post_det hb3 (Grow.refl _) rfl rfl
    refine Flow.st_step (rbSt (n - 14) (xs.drop 14)) ?_ ?_
    · go_light
      intro w1 hC1
      simp only [Flow.fill, Flow.after, Flow.at_, List.nil_append, List.cons_append, List.getD_cons_zero, List.getD_cons_succ, det, forall_eq, List.setIfInBounds_toArray, List.set_cons_zero, List.set_cons_succ, List.drop, List.length]
      have hb3 := hC1
      have hs3 := hb3.size; have k8 := (hb3.cell (p := ⟨b, o + 8, none⟩) (by show b < _; omega)).trans g8; have k9 := (hb3.cell (p := ⟨b, o + 9, none⟩) (by show b < _; omega)).trans g9
      have hr3 := (hr2.below' hb3 (by omega)).more (B' := w1.heap.size) (by omega)
      have hi14 : (14 : Int) ≤ n := by omega
      by_cases hc14 : c = 14
      · have hn14 : n = 14 := by omega
        subst hc14
        subst hn14
        go_wp2
        exact Flow.post_st hb3 (Grow.refl _) rfl rfl ⟨_, _, rfl, by rw [List.drop_eq_nil_of_le (by rw [hl.out]; exact Nat.le_refl _)]; exact ⟨Reads.none_, fun x hx => by simp at hx⟩⟩
      · go_wp2
        exact Flow.post_st hb3 (Grow.refl _) rfl rfl ⟨_, _, rfl, hr3.cut_some (k := 14) (by omega)⟩
    refine Flow.st_step (ownSt w2.heap.size 5 1 (n - 14) ((xs.drop 14).map (Value.int .u8))) ?_ ?_
    · go_light
      intro w1 hC1
      simp only [Flow.fill, Flow.after, Flow.at_, List.nil_append, List.cons_append, List.getD_cons_zero, List.getD_cons_succ, det, forall_eq, List.setIfInBounds_toArray, List.set_cons_zero, List.set_cons_succ, List.drop, List.length]
      rintro _ ⟨A14, c14, rfl, hr14⟩
      have hb3 := hC1
      have hs3 := hb3.size; have k8 := (hb3.cell (p := ⟨b, o + 8, none⟩) (by show b < _; omega)).trans g8; have k9 := (hb3.cell (p := ⟨b, o + 9, none⟩) (by show b < _; omega)).trans g9
      go_wp2_with (go_at_call 83; refine (clone_any _ _ _ (xs.drop 14) _ _ hr14 (Nat.le_refl _) (by omega)).mono ?_; rintro e w4 ⟨v, rfl, hown4, hg2⟩)
      exact Flow.post_st (hb3.trans (hg2.mono hb3.size)) hg2 rfl rfl (own_base hown4 hb3.size)
    refine Flow.st_step (⟨fun v W => ∃ A cc, v = .agg #[.int .u32 (wordI xs), .int .u32 (wordI (xs.drop 4)), .int .i64 y8, .int .i64 y9, .slice A (n - 14) cc] ∧ (ownSt w2.heap.size 5 1 (n - 14) ((xs.drop 14).map (Value.int .u8))).p (.slice A (n - 14) cc) W, fun v W W' hh hg => by obtain ⟨A, cc, h1, h2⟩ := hh; exact ⟨A, cc, h1, St.mono _ _ _ _ h2 hg⟩⟩) ?_ ?_
    · go_light
      intro w1 hC1
      simp only [Flow.fill, Flow.after, Flow.at_, List.nil_append, List.cons_append, List.getD_cons_zero, List.getD_cons_succ, det, forall_eq, List.setIfInBounds_toArray, List.set_cons_zero, List.set_cons_succ, List.drop, List.length]
      rintro v76 hv76
      have hb3 := hC1
      have hs3 := hb3.size; have k8 := (hb3.cell (p := ⟨b, o + 8, none⟩) (by show b < _; omega)).trans g8; have k9 := (hb3.cell (p := ⟨b, o + 9, none⟩) (by show b < _; omega)).trans g9
      have hv76' : w1.ownsRow w2.heap.size 5 1 v76 (n - 14) ((xs.drop 14).map (Value.int .u8)) := hv76
      obtain ⟨A76, c76, rfl, -⟩ := own_shape hv76'
      go_wp2
      exact Flow.post_st hb3 (Grow.refl _) rfl rfl ⟨_, _, rfl, hv76'⟩
    refine Flow.st_step (⟨fun v W => ∃ g6, v = .pointer (some ⟨g6, 0, none⟩) ∧ w2.heap.size ≤ g6 ∧ g6 < W.heap.size ∧ W.heap[g6]? = some (.cells #[.int .u32 0, .int .u32 0, .int .i64 0, .int .i64 0, .slice none 0 0] 25 (0, 0)), fun v W W' hh hg => by obtain ⟨g6, h1, h2, h3, h4⟩ := hh; exact ⟨g6, h1, h2, Nat.lt_of_lt_of_le h3 hg.size, (hg.block g6 h3).trans h4⟩⟩) ?_ ?_
    · go_light
      intro w1 hC1
      simp only [Flow.fill, Flow.after, Flow.at_, List.nil_append, List.cons_append, List.getD_cons_zero, List.getD_cons_succ, det, forall_eq, List.setIfInBounds_toArray, List.set_cons_zero, List.set_cons_succ, List.drop, List.length]
      have hb3 := hC1
      have hs3 := hb3.size; have k8 := (hb3.cell (p := ⟨b, o + 8, none⟩) (by show b < _; omega)).trans g8; have k9 := (hb3.cell (p := ⟨b, o + 9, none⟩) (by show b < _; omega)).trans g9
      go_wp2
      exact Flow.post_st (hb3.alloc (by exact hb3.size) _) (Grow.alloc _ _) rfl rfl ⟨_, rfl, hb3.size, by simp, heap_alloc_new _ _⟩
    intro w1 hC1
    simp only [Flow.fill, Flow.after, Flow.at_, List.nil_append, List.cons_append, List.getD_cons_zero, List.getD_cons_succ, det, forall_eq, List.setIfInBounds_toArray, List.set_cons_zero, List.set_cons_succ, List.drop, List.length]
    rintro _ - _ - _ ⟨A77, c77, rfl, hr77⟩ _ ⟨g6, rfl, hg6, hg6l, hcs6⟩
    have hb3 := hC1
    have hs3 := hb3.size
    have hb3' : Below (w.heap.size + 1) (w.alloc (.cells #[.int .u32 0, .int .u32 0, .int .i64 0, .int .i64 0, .slice none 0 0] 25)) w1 := hb2.trans (hb3.mono hsz2)
    have hbw3 : Below w.heap.size w w1 := hbw2.trans (hb3.mono (by omega))
    clear g8 g9 hr4 hb2 hb3 hbw2 hr2
    obtain ⟨m0, m1, m2, m3, m4⟩ := row5 hcs6
    obtain ⟨f0, f1, f2, f3, f4⟩ := row5f hcs6
    have ho77 : w1.ownsRow w2.heap.size 5 1 (.slice A77 (n - 14) c77) (n - 14) ((xs.drop 14).map (Value.int .u8)) := hr77
    have hne := own_row_ne ho77 hcs6 (by decide)
    have hg5 := grown5 w1 g6 (.int .u32 (wordI xs)) (.int .u32 (wordI (xs.drop 4))) (.int .i64 y8) (.int .i64 y9) (.slice A77 (n - 14) c77)
    have ho4 := ho77.kept hg5 (.inr hne)
    have hrow := set5 (a := .int .u32 (wordI xs)) (b := .int .u32 (wordI (xs.drop 4))) (c := .int .i64 y8) (d := .int .i64 y9) (e := .slice A77 (n - 14) c77) hcs6
    have hb4 := below5 hb3' (k := g6) (by omega) (.int .u32 (wordI xs)) (.int .u32 (wordI (xs.drop 4))) (.int .i64 y8) (.int .i64 y9) (.slice A77 (n - 14) c77)
    have hsz4 := hb4.size
    simp only [World.size_alloc] at hsz4
    have hbw4 : Below w.heap.size w _ := ((Below.refl _ _).alloc (Nat.le_refl _) _).trans (hb4.mono (by omega))
    clear hcs6 hne hg5 ho77 hr77 hb3' hbw3
    rw [hl.out] at hr0
    have HR0 := Lib.hid hr0
    clear hr0
    go_wp2_with fail
    obtain ⟨w4, hw4⟩ : ∃ w4, w4 = (((((w1.setCell ⟨g6, 0, none⟩ (.int .u32 (wordI xs))).setCell ⟨g6, 1, none⟩ (.int .u32 (wordI (xs.drop 4)))).setCell ⟨g6, 2, none⟩ (.int .i64 y8)).setCell ⟨g6, 3, none⟩ (.int .i64 y9)).setCell ⟨g6, 4, none⟩ (.slice A77 (n - 14) c77)) := ⟨_, rfl⟩
    rw [← hw4] at ho4 hrow hb4 hsz4 hbw4 ⊢
    clear hw4 m0 m1 m2 m3 m4 f0 f1 f2 f3 f4
    refine (check_any _ _ _ _ _ _ _ _).mono ?_
    rintro e w5 ⟨rfl, hb5⟩
    have hb5' := hb4.trans (hb5.mono hsz4)
    have hbw5 := hbw4.trans (hb5.mono (by omega))
    have hrow5 := (hb5.block g6 (by exact (Array.getElem?_eq_some_iff.1 hrow).1)).trans hrow
    have ho5 := ho4.kept (Grow.by_ hb5 none) (by cases (Value.slice A77 (n - 14) c77).ownBlock <;> simp)
    obtain ⟨m0, m1, m2, m3, m4⟩ := row5 hrow5
    obtain ⟨k0, k1, k2, k3, k4⟩ := box5 hb5'
    obtain ⟨z0, z1, z2, z3, z4⟩ := box5f hb5'
    by_cases hck : checkI y8 y9 (n - 14) ≠ 0
    · have hr0 := HR0.out
      rw [if_pos hck] at hr0
      clear HR0
      subst hr0
      have hck' : (checkI y8 y9 (n - 14) != 0) = true := by simpa using hck
      generalize checkI y8 y9 (n - 14) = ce at *
      clear hck ho4 ho5 hrow hrow5
      go_wp2
      exact bodyPost_ret (v := .tuple #[.agg #[.int .u32 0, .int .u32 0, .int .i64 0, .int .i64 0, .slice none 0 0], .int .i64 ce]) (by simp [results, Try.results21, go_sem, k0, k1, k2, k3, k4]) rfl (.of_bad (below5 hbw5 (Nat.le_refl _) _ _ _ _ _))
    · have hr0 := HR0.out
      rw [if_neg hck] at hr0
      clear HR0
      subst hr0
      have hck' : checkI y8 y9 (n - 14) = 0 := by simpa using hck
      have hoF := ho5.kept (grown5 w5 w.heap.size (.int .u32 (wordI xs)) (.int .u32 (wordI (xs.drop 4))) (.int .i64 y8) (.int .i64 y9) (.slice A77 (n - 14) c77)) (.inr (fun e => by have := (ho5.lt _ e).1; omega))
      clear hck ho4 ho5 hrow hrow5
      go_wp2
      refine bodyPost_ret (v := .tuple #[.agg #[.int .u32 (wordI xs), .int .u32 (wordI (xs.drop 4)), .int .i64 y8, .int .i64 y9, .slice A77 (n - 14) c77], .int .i64 0]) (by simp [results, Try.results21, go_sem, k0, k1, k2, k3, k4]) rfl ?_
      exact ⟨A77, n - 14, c77, rfl, RB.of_own hoF (fun x hx => h.2 x (List.mem_of_mem_drop hx)), below5 hbw5 (Nat.le_refl _) _ _ _ _ _, FreshV.own hoF (by omega)⟩
end Go.Proofs.Ythlhjaacjhlkhaa
