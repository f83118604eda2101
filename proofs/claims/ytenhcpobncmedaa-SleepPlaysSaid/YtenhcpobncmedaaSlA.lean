/- Contracts of slices.Index, Contains, Equal, Clone at []int, and of ringlaw1.at. -/
import Derived.Test.YtenhcpobncmedaaProg
import Derived.Test.YtenhcpobncmedaaNear
import Derived.Test.YtenhcpobncmedaaRecs
import Derived.Test.YtenhcpobncmedaaOwn
import Derived.WalkSpells
import Derived.WalkLawsBesides
import Derived.Outline
import Derived.LoopTactic
import Derived.IntWalk
namespace Go.Proofs.Ytenhcpobncmedaa
open Go.RowKit
set_option maxHeartbeats 400000
set_option linter.unusedVariables false
set_option linter.unusedSimpArgs false
theorem sl_bool {a b : Bool} (h : a = b) : Ending.returned (.bool a) = .returned (.bool b) := by rw [h]
theorem sl_int {k : IntKind} {a b : Int} (h : a = b) : Ending.returned (.int k a) = .returned (.int k b) := by rw [h]
theorem sl_below_drewN {B : Nat} {w w' : World} (h : Below B w w') (n : Nat) : Below B w (w'.drewN n) := ⟨h.os, h.tape, h.output, h.size, h.block⟩
theorem sl_eql_nil {P : Program} (w : World) (t e : TypeId) (a : Option Addr) (n c n' c' : Nat) (h : P.underlying t = some (.slice e)) :
    (binOp .eql t (.slice a n c) (.slice none n' c')).run P w = .ok (.bool a.isNone) w := by
  simp only [binOp]
  simp [Op.equal, Op.maxDepth, Lib.run_equalIn_slice_nil w 9999 t e a n c n' c' h]
/-- The first place of x; -1 if there is none. -/
def idxI (xs : List Int) (x : Int) : Int := match xs.findIdx? (· == x) with | some i => i | none => -1
theorem idxI_nonneg (xs : List Int) (x : Int) : decide (0 ≤ idxI xs x) = xs.contains x := by
  unfold idxI
  rw [Bool.eq_iff_iff]
  cases h : xs.findIdx? (· == x) with
  | none =>
    rw [List.findIdx?_eq_none_iff] at h
    simp
    intro hx
    have := h x hx
    simp at this
  | some i =>
    obtain ⟨hi, h1, _⟩ := List.findIdx?_eq_some_iff_getElem.1 h
    simp at h1 ⊢
    exact h1 ▸ List.getElem_mem hi
theorem idxI_at {xs : List Int} {x : Int} {k : Nat} (hk : k < xs.length) (h : xs.getD k 0 = x) (hn : ∀ j, j < k → xs.getD j 0 ≠ x) : idxI xs x = k := by
  unfold idxI
  have : xs.findIdx? (· == x) = some k := by
    rw [List.findIdx?_eq_some_iff_getElem]
    refine ⟨hk, by simpa [List.getD, List.getElem?_eq_getElem hk] using h, fun j hj => ?_⟩
    have := hn j hj
    simpa [List.getD, List.getElem?_eq_getElem (Nat.lt_trans hj hk)] using this
  rw [this]
theorem idxI_none {xs : List Int} {x : Int} (hn : ∀ j, j < xs.length → xs.getD j 0 ≠ x) : idxI xs x = -1 := by
  unfold idxI
  have : xs.findIdx? (· == x) = none := by
    rw [List.findIdx?_eq_none_iff]
    intro y hy
    obtain ⟨j, hj, rfl⟩ := List.mem_iff_getElem.1 hy
    have := hn j hj
    simpa [List.getD, List.getElem?_eq_getElem hj] using this
  rw [this]
theorem sl_next {p : Nat → Prop} {k : Nat} (h : ∀ j, j < k → p j) (hk : p k) : ∀ j, j < k + 1 → p j := fun j hj => by
  rcases Nat.lt_or_ge j k with hjk | hjk
  · exact h j hjk
  · obtain rfl : j = k := by omega
    exact hk
/-- A slice of ints that reads as xs (with nothing said of their range). -/
def RD (w : World) (B : Nat) (A : Option Addr) (n : Nat) (xs : List Int) : Prop := Reads w B 1 A n (xs.map (Value.int .i64))
theorem RD.len {w : World} {B n : Nat} {A : Option Addr} {xs : List Int} (h : RD w B A n xs) : xs.length = n := by simpa using h.1
theorem RD.at_ {w : World} {B n i : Nat} {A : Option Addr} {xs : List Int} (h : RD w B A n xs) (hi : i < n) : ∃ b o, A = some ⟨b, o, none⟩ ∧ b < B ∧ w.cell? ⟨b, o + i, none⟩ = some (.int .i64 (xs.getD i 0)) := by
  obtain ⟨b, o, u, e, hb, hx, hc⟩ := Reads.at_ h hi
  have hl : i < xs.length := by rw [h.len]; exact hi
  have hu : u = .int .i64 (xs.getD i 0) := by
    rw [List.getElem?_map, List.getElem?_eq_getElem hl] at hx
    simp [List.getD, List.getElem?_eq_getElem hl]
    simpa using hx.symm
  subst hu
  exact ⟨b, o, e, hb, hc⟩
theorem RD.below' {w w' : World} {B B' n : Nat} {A : Option Addr} {xs : List Int} (h : RD w B A n xs) (hb : Below B' w w') (hB : B ≤ B') : RD w' B A n xs := Reads.below' h hb hB
theorem RD.of_row {w : World} {base : Nat} {e : TypeId} {A : Option Addr} {n c : Nat} {xs : List Int} (h : Row w base e 1 (.slice A n c) n (xs.map (Value.int .i64))) : RD w w.heap.size A n xs := h.reads
theorem RD.of_row' {w : World} {base : Nat} {e : TypeId} {A : Option Addr} {n m c : Nat} {xs : List Int} (h : Row w base e 1 (.slice A n c) m (xs.map (Value.int .i64))) : RD w w.heap.size A n xs := by
  obtain ⟨A', c', e1, _, _⟩ := h.shape
  injection e1 with _ e2 _
  subst e2
  exact h.reads
theorem RD.of_ri {w : World} {B n : Nat} {A : Option Addr} {xs : List Int} (h : RI .i64 w B A n xs) : RD w B A n xs := h.1
set_option maxRecDepth 100000 in
theorem index_any (A : Option Addr) (n c : Nat) (x : Int) (xs : List Int) (w : World) (B : Nat) (h : RD w B A n xs) (hn : n ≤ 9223372036854775807) :
    Calls Try.prog 112 #[.slice A n c, .int .i64 x] w fun e w' => e = .returned (.int .i64 (idxI xs x)) ∧ w = w' := by
  have HL := Lib.hid h.len
  go_enter Try.func112, Try.ntmps112
  go_wp2
  go_loop [8] (fun i => ∃ k : Nat, k ≤ n ∧ i = .int .i64 k ∧ Hid (∀ j, j < k → xs.getD j 0 ≠ x)) (fun i => n - (intOf i).toNat)
  case atStart => exact ⟨0, by omega, rfl, Lib.hid (fun j hj => by omega)⟩
  case round =>
    obtain ⟨k, hk, rfl, hno⟩ := hrel
    by_cases hlt : k < n
    · obtain ⟨b, o, rfl, hb, hc⟩ := h.at_ hlt
      have hkn : (k : Int) < n := by omega
      have hY := Lib.hid (fun y => idxI_at (xs := xs) (x := x) (k := k) (by rw [HL.out]; exact hlt) y hno.out)
      have hN := Lib.hid (fun y => sl_next (p := fun j => xs.getD j 0 ≠ x) hno.out y)
      generalize xs.getD k 0 = y at *
      by_cases hq : x = y
      · have d : (x == y) = true := by simpa using hq
        have hr := Lib.hid (hY.out hq.symm)
        clear hq
        go_wp2
        go_ret
        exact ⟨sl_int hr.out.symm, rfl⟩
      · have d : (x == y) = false := by simpa using hq
        go_wp2
        go_round
        case rel => exact ⟨k + 1, by omega, by go_num, Lib.hid (hN.out (fun e => hq e.symm))⟩
        case measure => simp [intOf]; omega
    · obtain rfl : k = n := by omega
      go_wp2
      go_ret
      exact ⟨sl_int (idxI_none (by rw [HL.out]; exact hno.out)).symm, rfl⟩
theorem contains_any (A : Option Addr) (n c : Nat) (x : Int) (xs : List Int) (w : World) (B : Nat) (h : RD w B A n xs) (hn : n ≤ 9223372036854775807) :
    Calls Try.prog 45 #[.slice A n c, .int .i64 x] w fun e w' => e = .returned (.bool (xs.contains x)) ∧ w = w' := by
  have H := Lib.hid (idxI_nonneg xs x)
  go_enter Try.func45, Try.ntmps45
  go_wp2_with fail
  refine (index_any A n c x xs _ B h hn).mono ?_
  rintro e w' ⟨rfl, rfl⟩
  generalize idxI xs x = y at *
  go_wp2
  go_ret
  exact ⟨sl_bool H.out, rfl⟩
theorem contains_is {b : Bool} (A : Option Addr) (n c : Nat) (x : Int) (xs : List Int) (w : World) (B : Nat) (h : RD w B A n xs) (hn : n ≤ 9223372036854775807) (hb : xs.contains x = b) :
    Calls Try.prog 45 #[.slice A n c, .int .i64 x] w fun e w' => e = .returned (.bool b) ∧ w = w' := hb ▸ contains_any A n c x xs w B h hn
theorem eq_of_all {xs ys : List Int} (hl : xs.length = ys.length) (h : ∀ j, j < xs.length → xs.getD j 0 = ys.getD j 0) : xs = ys := by
  refine List.ext_getElem hl fun j h1 h2 => ?_
  have := h j h1
  simpa [List.getD, List.getElem?_eq_getElem h1, List.getElem?_eq_getElem h2] using this
set_option maxRecDepth 100000 in
theorem equal_any (A A' : Option Addr) (n c n' c' : Nat) (xs ys : List Int) (w : World) (B B' : Nat) (h : RD w B A n xs) (h' : RD w B' A' n' ys) (hB : B ≤ w.heap.size) (hB' : B' ≤ w.heap.size) (hn : n ≤ 9223372036854775807) (hn' : n' ≤ 9223372036854775807) :
    Calls Try.prog 31 #[.slice A n c, .slice A' n' c'] w fun e w' => e = .returned (.bool (decide (xs = ys))) ∧ Below w.heap.size w w' := by
  have HL := Lib.hid h.len
  have HL' := Lib.hid h'.len
  by_cases hne : n = n'
  · subst hne
    go_enter Try.func31, Try.ntmps31
    go_wp2
    go_loopw [13] (fun i wr => ∃ k : Nat, k ≤ n ∧ i = .int .i64 k ∧ Hid (∀ j, j < k → xs.getD j 0 = ys.getD j 0) ∧ Below w.heap.size w wr) (fun i _ => n - (intOf i).toNat)
    case atStart => exact ⟨0, by omega, rfl, Lib.hid (fun j hj => by omega), Below.refl _ _⟩
    case round =>
      obtain ⟨k, hk, rfl, hno, hbw⟩ := hrel
      by_cases hlt : k < n
      · obtain ⟨b, o, rfl, hb, hc⟩ := (h.below' hbw hB).at_ hlt
        obtain ⟨b', o', rfl, hb', hc'⟩ := (h'.below' hbw hB').at_ hlt
        have hkn : (k : Int) < n := by omega
        have hk0 : (0 : Int) ≤ k := by omega
        have hY : Hid (xs.getD k 0 ≠ ys.getD k 0 → xs ≠ ys) := Lib.hid (fun y e => y (by rw [e]))
        have hN := Lib.hid (fun y => sl_next (p := fun j => xs.getD j 0 = ys.getD j 0) hno.out y)
        generalize xs.getD k 0 = y at *
        generalize ys.getD k 0 = z at *
        by_cases hq : y = z
        · have d : (y != z) = false := by simpa using hq
          have hr := Lib.hid (hN.out hq)
          clear hq
          go_wp2
          go_quiet (fail)
          go_wp2
          go_roundw
          case rel => exact ⟨k + 1, by omega, by go_num, hr, sl_below_drewN hbw _⟩
          case measure => simp [intOf]; omega
        · have d : (y != z) = true := by simpa using hq
          go_wp2
          go_quiet (fail)
          go_wp2
          go_ret
          exact ⟨sl_bool (decide_eq_false (hY.out hq)).symm, sl_below_drewN hbw _⟩
      · obtain rfl : k = n := by omega
        go_wp2
        go_ret
        exact ⟨sl_bool (decide_eq_true (eq_of_all (by rw [HL.out, HL'.out]) (by rw [HL.out]; exact hno.out))).symm, hbw⟩
  · have d : ((n : Int) != n') = true := by simp; omega
    go_enter Try.func31, Try.ntmps31
    go_wp2
    go_ret
    exact ⟨sl_bool (decide_eq_false (fun e => hne (by rw [← HL.out, ← HL'.out, e]))).symm, Below.refl _ _⟩
def ClonePost (w : World) (n : Nat) (xs : List Int) (e : Ending) (w' : World) : Prop := ∃ v, e = .returned v ∧ Row w' w.heap.size 3 1 v n (xs.map (Value.int .i64)) ∧ Below w.heap.size w w'
theorem int_oneCell (xs : List Int) : ∀ u ∈ xs.map (Value.int .i64), u.oneCell' = true := by
  intro u hu
  obtain ⟨x, _, rfl⟩ := List.mem_map.1 hu
  rfl
theorem Try.infoInt : (Try.prog.info? 3).map (fun i => (i.zero, i.size, i.bytes)) = some (some (.int .i64 0), 1, 8) := by kernel_rfl
set_option maxRecDepth 100000 in
theorem clone_any (A : Option Addr) (n c : Nat) (xs : List Int) (w : World) (B : Nat) (h : RD w B A n xs) (hB : B ≤ w.heap.size) (hn : n * 8 ≤ 140737488355328) :
    Calls Try.prog 87 #[.slice A n c] w (ClonePost w n xs) := by
  have HL := Lib.hid h.len
  obtain ⟨i0, hi, hz0, hz1, hz2⟩ := info_parts Try.infoInt
  have hnl := fun (w : World) (a : Option Addr) (n c n' c' : Nat) => sl_eql_nil (P := Try.prog) w 45 3 a n c n' c' Try.underlying45
  rcases A with _ | ⟨b, o, sp⟩
  · have h0 : n = 0 := by
      rcases Nat.eq_zero_or_pos n with h0 | h0
      · exact h0
      · obtain ⟨_, _, e, _⟩ := h.2 h0; cases e
    subst h0
    have hx : xs = [] := List.eq_nil_of_length_eq_zero HL.out
    subst hx
    go_enter Try.func87, Try.ntmps87
    go_wp2
    go_ret
    exact ⟨_, rfl, Row.nil _ _ _ _, Below.refl _ _⟩
  · go_enter Try.func87, Try.ntmps87
    go_wp2_with (at_builtin; refine wpList_append_row _ rfl (.tmp 5) (.tmp 6) 45 rfl w.heap.size 3 i0 (.int .i64 0) 1 8 Try.underlying45 hi hz0 hz1 hz2 rfl (by decide) (.slice (some ⟨w.heap.size, 0, none⟩) 0 0) 0 [] rfl ?c1 B (some ⟨b, o, sp⟩) n c (xs.map (Value.int .i64)) rfl ?c2 (int_oneCell xs) ?c3 ?c4 ?c5 ?_; rotate_left; skip)
    case c1 => exact ⟨rfl, .inr ⟨w.heap.size, 0, 0, #[], rfl, Nat.le_refl _, Blk.new w #[] 3, Nat.le_refl _, by simp, by simp, fun j u hu => by simp at hu⟩⟩
    case c2 => exact Reads.alloc h hB _
    case c3 => unfold maxLen; omega
    case c4 => omega
    case c5 => simp
    intro A' c' w1 hr hg _
    go_wp2
    go_ret
    exact ⟨_, rfl, hr, ((Below.refl _ _).alloc (Nat.le_refl _) _).grown hg (by simp) (fun k hk => by simp [Value.ownBlock] at hk; omega)⟩
theorem at_any (A : Option Addr) (n c : Nat) (xs : List Int) (i : Nat) (w : World) (B : Nat) (h : RD w B A n xs) (hn : n ≤ 9223372036854775807) (hi : i ≤ 1000) :
    Calls Try.prog 21 #[.slice A n c, .int .i64 i] w fun e w' => e = .returned (.int .i64 (xs.getD i 0)) ∧ w = w' := by
  have HL := Lib.hid h.len
  by_cases hlt : i < n
  · obtain ⟨b, o, rfl, hb, hc⟩ := h.at_ hlt
    generalize xs.getD i 0 = y at *
    have hkn : (i : Int) < n := by omega
    go_enter Try.func21, Try.ntmps21
    go_wp2
    go_ret
    exact ⟨rfl, rfl⟩
  · have hz : xs.getD i 0 = 0 := by
      have : xs.length ≤ i := by rw [HL.out]; omega
      simp [List.getD, List.getElem?_eq_none this]
    rw [hz]
    go_enter Try.func21, Try.ntmps21
    go_wp2
    go_ret
    exact ⟨rfl, rfl⟩
/-- A play: a slice of ints. -/
structure Pl where
  A : Option Addr
  n : Nat
  c : Nat
  xs : List Int
def Pl.cells (p : Pl) : List Value := [.slice p.A p.n p.c]
def Pl.zero : Pl := ⟨none, 0, 0, []⟩
def Pl.fine (w : World) (B : Nat) (p : Pl) : Prop := RI .i64 w B p.A p.n p.xs ∧ p.n ≤ 9223372036854775807
/-- Plays: a slice of slices of ints. -/
def RPl (w : World) (B : Nat) (A : Option Addr) (n : Nat) (ps : List Pl) : Prop := RS Pl.cells 1 w B A n ps ∧ ∀ p ∈ ps, p.fine w B
theorem RPl.below' {w w' : World} {B B' n : Nat} {A : Option Addr} {ps : List Pl} (h : RPl w B A n ps) (hb : Below B' w w') (hB : B ≤ B') : RPl w' B A n ps := ⟨h.1.below' hb hB, fun p hp => ⟨(h.2 p hp).1.below' hb hB, (h.2 p hp).2⟩⟩
theorem RPl.at_ {w : World} {B n i : Nat} {A : Option Addr} {ps : List Pl} (h : RPl w B A n ps) (hi : i < n) :
    ∃ b o, A = some ⟨b, o, none⟩ ∧ b < B ∧ w.cell? ⟨b, o + i, none⟩ = some (.slice (ps.getD i .zero).A (ps.getD i .zero).n (ps.getD i .zero).c) ∧ (ps.getD i .zero).fine w B := by
  obtain ⟨b, o, e, hb, hm, hc⟩ := RS.at_ (cl := Pl.cells) (s := 1) (fun _ => rfl) Pl.zero h.1 hi
  have := hc 0 _ rfl
  rw [Nat.mul_one, Nat.add_zero] at this
  exact ⟨b, o, e, hb, this, h.2 _ hm⟩
theorem RI.rng {k : IntKind} {w : World} {B n : Nat} {A : Option Addr} {xs : List Int} (h : RI k w B A n xs) (i : Nat) (h0 : (Lit.int k 0).wf = true) : (Lit.int k (xs.getD i 0)).wf = true := by
  by_cases hi : i < xs.length
  · have := h.2 xs[i] (List.getElem_mem hi)
    simpa [List.getD, List.getElem?_eq_getElem hi] using this
  · simpa [List.getD, List.getElem?_eq_none (by omega : xs.length ≤ i)] using h0
section
open Go.ChangeShapes Go.WideShapes Go.ChangeAt Go.Joins Go.Deep
variable {H : Type} {enc : TypeId × Value → H} {P : Program} {w : World} {base : Nat} {held : Bool}
theorem open_plays {t e i : TypeId} {fuel : Nat} {v : Value} {x : DataW H × List MemPlace} (ht : P.underlying t = some (.slice e)) (he : P.underlying e = some (.slice i)) (hi : P.underlying i = some (.int .i64)) (hc : P.cellsOf e = 1) (hci : P.cellsOf i = 1)
    (h : DataW.trod enc P w base (fun _ => true) held fuel t [v] = some x) :
    ∃ A n c ps, v = .slice A n c ∧ RPl w w.heap.size A n ps ∧ n ≤ c ∧ c ≤ maxLen ∧ (∀ R, (∀ m ∈ x.1.weights P t, m ≤ R) → n * P.bytesOf e ≤ R) := by
  obtain ⟨A, n, c, ps, h1, h2, h3, h4, h5, h6⟩ := open_recs Pl.zero (cl := Pl.cells) (s := 1) (fun _ => rfl) (by omega) (fun p => p.fine w w.heap.size) ht hc (fun fu cs y hy hl => by
    match cs, hl with
    | [u], _ =>
      obtain ⟨A, m, c, xs, rfl, hr, hmc, hcm, _⟩ := open_ri he hi hci hy
      exact ⟨⟨A, m, c, xs⟩, rfl, hr, by unfold maxLen at hcm; dsimp only; omega⟩) h
  exact ⟨A, n, c, ps, h1, ⟨h2, h3⟩, h4, h5, h6⟩
end
end Go.Proofs.Ytenhcpobncmedaa
