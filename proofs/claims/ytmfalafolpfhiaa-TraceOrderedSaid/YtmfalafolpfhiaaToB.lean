/- Contracts of slices.Delete, slices.Index at ints, ringref4.holding. -/
import Derived.Test.YtmfalafolpfhiaaToA
namespace Go.Proofs.Ytmfalafolpfhiaa
open Go.RowKit
set_option maxHeartbeats 400000
set_option linter.unusedVariables false
set_option linter.unusedSimpArgs false
theorem tk_drewN {B : Nat} {w w' : World} (h : Below B w w') (n : Nat) : Below B w (w'.drewN n) := ⟨h.os, h.tape, h.output, h.size, h.block⟩
theorem Try.infoI2 : (Try.prog.info? 3).map (fun i => (i.zero, i.size, i.bytes)) = some (some (.int .i64 0), 1, 8) := by kernel_rfl
theorem eraseIdx_parts {α : Type} (xs : List α) (i : Nat) : xs.take i ++ xs.drop (i + 1) = xs.eraseIdx i := (List.eraseIdx_eq_take_drop_succ xs i).symm
def DelPost (w : World) (base g o n c i : Nat) (xs : List Value) (e : Ending) (w' : World) : Prop :=
  e = .returned (.slice (some ⟨g, o, none⟩) (n - 1) c) ∧ Row w' base 3 1 (.slice (some ⟨g, o, none⟩) (n - 1) c) (n - 1) (xs.eraseIdx i) ∧ Fr (fun k => k = g) w w'
set_option maxHeartbeats 1000000 in
set_option maxRecDepth 100000 in
theorem delete_any (g o n c i : Nat) (xs : List Value) (w : World) (base : Nat) (h : Row w base 3 1 (.slice (some ⟨g, o, none⟩) n c) n xs) (hone : ∀ u ∈ xs, u.oneCell' = true) (hi : i < n) (hm : n ≤ c ∧ c ≤ 9223372036854775807) :
    Calls Try.prog 20 #[.slice (some ⟨g, o, none⟩) n c, .int .i64 i, .int .i64 ((i : Int) + 1)] w (DelPost w base g o n c i xs) := by
  obtain ⟨i0, hi0, hz0, hz1, hz2⟩ := info_parts Try.infoI
  have hE := Lib.hid (eraseIdx_parts xs i)
  have ht := h.drew.take (k := i) (by omega)
  rw [Nat.mul_one] at ht
  have hr := (h.drew.cut (k := i + 1) (by omega)).reads
  have hz3 : ∀ w, (zeroValue 3).run Try.prog w = .ok (.int .i64 0) w := Try.zeroValue3
  have hn := Lib.hid (show i + (n - (i + 1)) = n - 1 by omega)
  have s1 := Lib.hid (fun u (hu : u ∈ xs.drop (i + 1)) => hone u (List.mem_of_mem_drop hu))
  have hcl := fun (w1 : World) hr1 => run_clear_row (P := Try.prog) w1 base 23 3 (.int .i64 0) 1 Try.underlying23 hz3 rfl (by decide) (by simp [Value.cells, Value.oneCell']) g o (i + (n - (i + 1))) c (n - (i + (n - (i + 1)))) (c - (i + (n - (i + 1)))) (xs.take i ++ xs.drop (i + 1)) hr1 (by omega) (by omega)
  have q0 : ((i : Int) == (i : Int) + 1) = false := by simp; omega
  have q1 : (i : Int) + 1 ≤ n := by omega
  have q2 : (i : Int) + 1 ≤ c := by omega
  have q3 : (i : Int) ≤ c := by omega
  have q4 : ¬ c = i + (n - (i + 1)) := by omega
  have q5 : i + (n - (i + 1)) ≤ n := by omega
  have q6 : n ≤ c := hm.1
  have hfin : ∀ w1 w2, w.drew.grownBy w1 (some g) → w1.grownBy w2 (some g) → Fr (fun k => k = g) w w2 := fun w1 w2 h1 h2 => (((Fr.refl _ w).drew).grown h1 (fun k e _ => by injection e with e; exact e.symm)).grown h2 (fun k e _ => by injection e with e; exact e.symm)
  have q7 : (0 : Int) ≤ (i : Int) + 1 := by omega
  have q8 : (i : Int) ≤ (i : Int) + 1 := by omega
  have q9 : i + (n - (i + 1)) ≤ c := by omega
  have Q9 := Lib.hid q9
  by_cases hc : c = i + 1
  case pos =>
    obtain rfl : n = i + 1 := by omega
    subst hc
    have hd : xs.drop (i + 1) = [] := List.drop_eq_nil_of_le (by have := h.1; omega)
    have hr0 : Reads w.drew 0 1 (some ⟨g, o, none⟩) 0 [] := ⟨rfl, fun h => absurd h (by omega)⟩
    have HD := Lib.hid hd
    rw [hd] at hcl hE
    simp only [Nat.sub_self, Nat.add_zero, List.append_nil, Nat.add_sub_cancel_left, Nat.mul_one] at hcl hE
    clear hd hn q9 Q9 q5 hr s1
    go_enter Try.func20, Try.ntmps20
    go_wp2_with fail
    go_region_law (refine step_append_inrow rfl (.tmp 22) (.tmp 25) 23 rfl base 3 i0 1 Try.underlying23 hi0 hz1 (by decide) g o i (i + 1) _ (by simp [Act.eval, Act.put]) ht 0 (some ⟨g, o, none⟩) 0 0 [] (by simp [Act.eval, Act.put]) hr0 (by simp) (by omega) ?_; intro w1 hr1 hg1)
    simp only [Nat.add_zero, List.append_nil] at hr1
    obtain ⟨w2, hrun, hr2, hg2⟩ := hcl w1 hr1
    have hf := Lib.hid (hfin w1 w2 hg1 hg2)
    clear hcl hfin hr1 hg1 hg2
    go_wp2
    go_ret
    exact ⟨by simp, by rw [← hE.out]; simpa using hr2, hf.out⟩
  case neg =>
    simp only [hc, if_false, Option.map_some, add_plain, Nat.mul_one] at hr hcl
    go_enter Try.func20, Try.ntmps20
    go_wp2_with fail
    go_region_law (refine step_append_inrow rfl (.tmp 22) (.tmp 25) 23 rfl base 3 i0 1 Try.underlying23 hi0 hz1 (by decide) g o i c _ (by simp [Act.eval, Act.put]) ht _ (some ⟨g, o + (i + 1), none⟩) (n - (i + 1)) (c - (i + 1)) _ (by simp [Act.eval, Act.put]) hr s1.out Q9.out ?_; intro w1 hr1 hg1)
    obtain ⟨w2, hrun, hr2, hg2⟩ := hcl w1 hr1
    have hf := Lib.hid (hfin w1 w2 hg1 hg2)
    clear hcl hfin hr1 hg1 hg2
    go_wp2
    go_ret
    exact ⟨by rw [hn.out]; rfl, by rw [← hE.out, ← hn.out]; exact hr2, hf.out⟩
/-- The first place of x; -1 if there is none. -/
def idxI (xs : List Int) (x : Int) : Int := match xs.findIdx? (· == x) with | some i => i | none => -1
theorem idxI_nonneg (xs : List Int) (x : Int) : decide (0 ≤ idxI xs x) = xs.contains x := by
  unfold idxI
  rw [Bool.eq_iff_iff]
  cases h : xs.findIdx? (· == x) with
  | none =>
    rw [List.findIdx?_eq_none_iff] at h
    simp
    intro hx
    have := h x hx
    simp at this
  | some i =>
    obtain ⟨hi, h1, _⟩ := List.findIdx?_eq_some_iff_getElem.1 h
    simp at h1 ⊢
    exact h1 ▸ List.getElem_mem hi
theorem idxI_at {xs : List Int} {x : Int} {k : Nat} (hk : k < xs.length) (h : xs.getD k 0 = x) (hn : ∀ j, j < k → xs.getD j 0 ≠ x) : idxI xs x = k := by
  unfold idxI
  have : xs.findIdx? (· == x) = some k := by
    rw [List.findIdx?_eq_some_iff_getElem]
    refine ⟨hk, by simpa [List.getD, List.getElem?_eq_getElem hk] using h, fun j hj => ?_⟩
    have := hn j hj
    simpa [List.getD, List.getElem?_eq_getElem (Nat.lt_trans hj hk)] using this
  rw [this]
theorem idxI_none {xs : List Int} {x : Int} (hn : ∀ j, j < xs.length → xs.getD j 0 ≠ x) : idxI xs x = -1 := by
  unfold idxI
  have : xs.findIdx? (· == x) = none := by
    rw [List.findIdx?_eq_none_iff]
    intro y hy
    obtain ⟨j, hj, rfl⟩ := List.mem_iff_getElem.1 hy
    have := hn j hj
    simpa [List.getD, List.getElem?_eq_getElem hj] using this
  rw [this]
set_option maxRecDepth 100000 in
theorem index_any (A : Option Addr) (n c : Nat) (x : Int) (xs : List Int) (w : World) (B : Nat) (h : RD w B A n xs) (hn : n ≤ 9223372036854775807) :
    Calls Try.prog 19 #[.slice A n c, .int .i64 x] w fun e w' => e = .returned (.int .i64 (idxI xs x)) ∧ w = w' := by
  have HL := Lib.hid h.len
  go_enter Try.func19, Try.ntmps19
  go_wp2
  go_loop [8] (fun i => ∃ k : Nat, k ≤ n ∧ i = .int .i64 k ∧ Hid (∀ j, j < k → xs.getD j 0 ≠ x)) (fun i => n - (intOf i).toNat)
  case atStart => exact ⟨0, by omega, rfl, Lib.hid (fun j hj => by omega)⟩
  case round =>
    obtain ⟨k, hk, rfl, hno⟩ := hrel
    by_cases hlt : k < n
    · obtain ⟨b, o, rfl, hb, hc⟩ := h.at_ hlt
      have hkn : (k : Int) < n := by omega
      have hY := Lib.hid (fun y => idxI_at (xs := xs) (x := x) (k := k) (by rw [HL.out]; exact hlt) y hno.out)
      have hN := Lib.hid (fun y => sl_next (p := fun j => xs.getD j 0 ≠ x) hno.out y)
      generalize xs.getD k 0 = y at *
      by_cases hq : x = y
      · have d : (x == y) = true := by simpa using hq
        have hr := Lib.hid (hY.out hq.symm)
        clear hq
        go_wp2
        go_ret
        exact ⟨sl_int hr.out.symm, rfl⟩
      · have d : (x == y) = false := by simpa using hq
        go_wp2
        go_round
        case rel => exact ⟨k + 1, by omega, by go_num, Lib.hid (hN.out (fun e => hq e.symm))⟩
        case measure => simp [intOf]; omega
    · obtain rfl : k = n := by omega
      go_wp2
      go_ret
      exact ⟨sl_int (idxI_none (by rw [HL.out]; exact hno.out)).symm, rfl⟩
/-- A list without the first x. -/
def without1 (l : List Int) (x : Int) : List Int := match l.findIdx? (· == x) with | some i => l.eraseIdx i | none => l
def hd1 (t : Int) (l : List Int) (r : Rc) : List Int := if r.t = t then (if r.k = 1 then l ++ [r.o] else if r.k = 2 then without1 l r.o else l) else l
def hd (rs : List Rc) (t : Int) : List Int := rs.foldl (hd1 t) []
theorem hd_take (rs : List Rc) (k : Nat) (h : k < rs.length) (t : Int) : hd (rs.take (k + 1)) t = hd1 t (hd (rs.take k) t) (rs.getD k .zero) := by
  unfold hd
  rw [List.take_succ_eq_append_getElem h, List.foldl_append]
  simp [List.getD, List.getElem?_eq_getElem h]
theorem without1_len (l : List Int) (x : Int) : (without1 l x).length ≤ l.length := by
  unfold without1
  split
  · exact List.length_eraseIdx_le l _
  · exact Nat.le_refl _
theorem hd_len (rs : List Rc) (t : Int) (k : Nat) (h : k ≤ rs.length) : (hd (rs.take k) t).length ≤ k := by
  induction k with
  | zero => simp [hd]
  | succ k ih =>
    rw [hd_take rs k (by omega)]
    have h1 := ih (by omega)
    generalize rs.getD k .zero = r
    have h2 := without1_len (hd (rs.take k) t) r.o
    unfold hd1
    (repeat' split) <;> simp <;> omega
theorem idxI_cases (l : List Int) (x : Int) : (idxI l x = -1 ∧ without1 l x = l) ∨ ∃ i : Nat, i < l.length ∧ idxI l x = i ∧ without1 l x = l.eraseIdx i := by
  unfold idxI without1
  cases h : l.findIdx? (· == x) with
  | none => exact .inl ⟨rfl, rfl⟩
  | some i => exact .inr ⟨i, (List.findIdx?_eq_some_iff_getElem.1 h).1, rfl, rfl⟩
def heldOf (rs : List Rc) (t : Int) : List Int := if traceErr rs = 0 then hd rs t else []
def HeldPost (rs : List Rc) (t : Int) (w : World) (e : Ending) (w' : World) : Prop :=
  ∃ A m c, e = .returned (.tuple #[.slice A m c, .int .i64 (traceErr rs)]) ∧ RD w' w'.heap.size A m (heldOf rs t) ∧ m ≤ 400 ∧ Below w.heap.size w w'
def HeldRel (w : World) (rs : List Rc) (t : Int) (k : Nat) (v : Value) (wr : World) : Prop :=
  Row wr w.heap.size 3 1 v (hd (rs.take k) t).length ((hd (rs.take k) t).map (Value.int .i64)) ∧ Below w.heap.size w wr
theorem HeldRel.mk' {w wr : World} {rs : List Rc} {t : Int} {k : Nat} {v : Value} {l : List Int} {m : Nat} (hl : hd (rs.take k) t = l) (hm : m = l.length) (hr : Row wr w.heap.size 3 1 v m (l.map (Value.int .i64))) (hb : Below w.heap.size w wr) : HeldRel w rs t k v wr := by
  subst hl; subst hm; exact ⟨hr, hb⟩
theorem reads_two (w : World) (X : Obj) (u : Value) (t : TypeId) : Reads ((w.alloc X).alloc (.cells #[u] t)) (w.heap.size + 2) 1 (some ⟨w.heap.size + 1, 0, none⟩) 1 [u] := by
  have := reads_one (w.alloc X) u t
  simpa using this
theorem map_eraseIdx {α β : Type} (f : α → β) (l : List α) (i : Nat) : (l.map f).eraseIdx i = (l.eraseIdx i).map f := by
  rw [List.eraseIdx_eq_take_drop_succ, List.eraseIdx_eq_take_drop_succ]; simp [List.map_take, List.map_drop]
def obAt (rs : List Rc) (p : Nat) : Int := (rs.getD p .zero).o
def plc (ls : List Nat) : List Value := ls.map fun p : Nat => .int .i64 (p : Int)
structure AtRel (w : World) (rs : List Rc) (t : Int) (k : Nat) (ls : List Nat) (v : Value) (wr : World) : Prop where
  row : Row wr w.heap.size 3 1 v ls.length (plc ls)
  eq : ls.map (obAt rs) = hd (rs.take k) t
  lt : ∀ p ∈ ls, p < k
  low : Below w.heap.size w wr
theorem plc_one (ls : List Nat) : ∀ u ∈ plc ls, u.oneCell' = true := by
  intro u hu
  obtain ⟨p, _, rfl⟩ := List.mem_map.1 hu
  rfl
theorem plc_at {ls : List Nat} {j : Nat} (h : j < ls.length) : (plc ls)[j]? = some (.int .i64 ((ls.getD j 0 : Nat) : Int)) := by
  simp [plc, List.getElem?_map, List.getD, List.getElem?_eq_getElem h]
theorem at_len {rs : List Rc} {t : Int} {k : Nat} {ls : List Nat} (h : ls.map (obAt rs) = hd (rs.take k) t) (hk : k ≤ rs.length) : ls.length ≤ k := by
  have := congrArg List.length h
  rw [List.length_map] at this
  rw [this]; exact hd_len rs t k hk
/-- No place of x ahead of j. -/
def noAhead (rs : List Rc) (ls : List Nat) (x : Int) (j : Nat) : Prop := ∀ i, i < j → obAt rs (ls.getD i 0) ≠ x
theorem no_next {rs : List Rc} {ls : List Nat} {x : Int} {j : Nat} (h : noAhead rs ls x j) (hx : obAt rs (ls.getD j 0) ≠ x) : noAhead rs ls x (j + 1) := fun i hi => by
  rcases Nat.lt_or_ge i j with hij | hij
  · exact h i hij
  · obtain rfl : i = j := by omega
    exact hx
theorem find_none {rs : List Rc} {ls : List Nat} {x : Int} (h : noAhead rs ls x ls.length) : without1 (ls.map (obAt rs)) x = ls.map (obAt rs) := by
  unfold without1
  have : (ls.map (obAt rs)).findIdx? (· == x) = none := by
    rw [List.findIdx?_eq_none_iff]
    intro y hy
    obtain ⟨p, hp, rfl⟩ := List.mem_map.1 hy
    obtain ⟨i, hi, rfl⟩ := List.mem_iff_getElem.1 hp
    have := h i hi
    simpa [List.getD, List.getElem?_eq_getElem hi] using this
  rw [this]
theorem find_at {rs : List Rc} {ls : List Nat} {x : Int} {j : Nat} (hj : j < ls.length) (h : noAhead rs ls x j) (hx : obAt rs (ls.getD j 0) = x) : without1 (ls.map (obAt rs)) x = (ls.take j ++ ls.drop (j + 1)).map (obAt rs) := by
  unfold without1
  have : (ls.map (obAt rs)).findIdx? (· == x) = some j := by
    rw [List.findIdx?_eq_some_iff_getElem]
    refine ⟨by simpa using hj, by simpa [List.getD, List.getElem?_eq_getElem hj] using hx, fun i hi => ?_⟩
    have := h i hi
    simpa [List.getD, List.getElem?_eq_getElem (Nat.lt_trans hi hj)] using this
  rw [this]
  dsimp only
  rw [List.eraseIdx_eq_take_drop_succ]
  simp [List.map_take, List.map_drop]
theorem cut_reads {w : World} {base g o n c k : Nat} {e : TypeId} {xs : List Value} {A8 : Option Addr} (h : Row w base e 1 (.slice (some ⟨g, o, none⟩) n c) n xs) (hk : k ≤ n) (hA : (if c = k then (some ⟨g, o, none⟩ : Option Addr) else some ⟨g, o + k, none⟩) = A8) : Reads w w.heap.size 1 A8 (n - k) (xs.drop k) := by
  have := (h.cut hk).reads
  rw [Nat.mul_one] at this
  subst hA
  simpa [add_plain] using this
theorem AtRel.next {w wr w' : World} {rs : List Rc} {t : Int} {k : Nat} {ls ls' : List Nat} {v v' : Value} (h : AtRel w rs t k ls v wr) (hk : k < rs.length) (hr : Row w' w.heap.size 3 1 v' ls'.length (plc ls')) (hb : Below w.heap.size w w')
    (he : ls'.map (obAt rs) = hd1 t (ls.map (obAt rs)) (rs.getD k .zero)) (hl : ∀ p ∈ ls', p < k + 1) : AtRel w rs t (k + 1) ls' v' w' :=
  ⟨hr, by rw [he, h.eq, hd_take rs k hk], hl, hb⟩
theorem AtRel.start {w : World} (rs : List Rc) (t : Int) : AtRel w rs t 0 [] (.slice none 0 0) w := ⟨Row.nil _ _ _ _, rfl, fun p hp => by simp at hp, Below.refl _ _⟩
def HoldPost (rs : List Rc) (t : Int) (m : Nat) (w : World) (e : Ending) (w' : World) : Prop :=
  ∃ A c, e = .returned (.slice A (hd (rs.take m) t).length c) ∧ Row w' w.heap.size 3 1 (.slice A (hd (rs.take m) t).length c) (hd (rs.take m) t).length ((hd (rs.take m) t).map (Value.int .i64)) ∧ Below w.heap.size w w'
theorem Blk.box {w : World} {rs : List Value} (cs : Array Value) (t : TypeId) : Blk (w.alloc (.cells cs t)) w.heap.size cs t := Blk.new _ _ _
set_option maxHeartbeats 4000000 in
set_option maxRecDepth 100000 in
theorem holding_any (A : Option Addr) (n c : Nat) (rs : List Rc) (t : Int) (m : Nat) (w : World) (B : Nat) (h : RR w B A n rs) (hB : B ≤ w.heap.size) (hm : m ≤ n) (hn : n ≤ 400) :
    Calls Try.prog 28 #[.slice A n c, .int .i64 m, .int .i64 t] w (HoldPost rs t m w) := by
  have HL := Lib.hid h.2
  obtain ⟨i0, hi, hz0, hz1, hz2⟩ := info_parts Try.infoI
  go_enter Try.func28, Try.ntmps28
  go_wp2
  go_loopw [7, 8] (fun v i wr => ∃ k ls, k ≤ m ∧ i = .int .i64 (k : Nat) ∧ AtRel w rs t k ls v wr) (fun _ i _ => m - (intOf i).toNat)
  case atStart => exact ⟨0, [], by omega, rfl, .start rs t⟩
  case round =>
    obtain ⟨k, ls, hk, rfl, hat⟩ := hrel
    have hlk := at_len hat.eq (by rw [HL.out]; omega)
    obtain ⟨A7, c7, hv, hc1, hc2⟩ := hat.row.shape
    subst hv
    unfold maxLen at hc2
    by_cases hlt : k < m
    · obtain ⟨b, of, rfl, hb, d0, d1, d2, d3⟩ := (h.below' hat.low hB).at_ (show k < n by omega)
      have hlen : k < rs.length := by rw [HL.out]; omega
      have hNx := Lib.hid (fun w' ls' v' => hat.next (w' := w') (ls' := ls') (v' := v') hlen)
      have hbw' : ∀ X, Below w.heap.size w (wr.alloc X) := fun X => hat.low.alloc hat.low.size X
      have hlow : ∀ p ∈ ls, p < k + 1 := fun p hp => Nat.lt_succ_of_lt (hat.lt p hp)
      have hsz := hat.low.size
      have HO := Lib.hid (show obAt rs k = (rs.getD k .zero).o from rfl)
      generalize rs.getD k .zero = r at *
      by_cases htt : r.t = t
      · have htt' : (r.t != t) = false := by simpa using htt
        have HTT := Lib.hid htt
        clear htt
        by_cases k1 : r.k = 1
        · have K1 := Lib.hid k1
          go_wp2_with (at_builtin; refine wpList_append_row _ rfl (.tmp 31) (.tmp 33) 23 rfl w.heap.size 3 i0 (.int .i64 0) 1 8 Try.underlying23 hi hz0 hz1 hz2 rfl (by decide) (.slice A7 ls.length c7) ls.length (plc ls) rfl ((hat.row.alloc _).alloc _) (wr.heap.size + 2) (some ⟨wr.heap.size + 1, 0, none⟩) 1 1 [.int .i64 k] rfl (reads_two wr _ _ 3) (by simp [Value.oneCell']) (by unfold maxLen; omega) (by omega) (by simp; omega) ?_)
          intro A1 c1 w2 hr1 hg1 ho1
          have hbx := ((Blk.new wr #[.int .i64 1, .int .i64 r.c, .int .i64 r.t, .int .i64 r.o] 51).alloc (.cells #[.int .i64 k] 3)).grown hg1 (fun e => by have := (hat.row.lt _ e.symm).2; omega)
          have hcb := hbx.cell
          have hlb := hbx.lt
          go_wp2
          go_roundw
          case rel => exact ⟨k + 1, ls ++ [k], by omega, by go_num, hNx.out _ _ _ (by simpa [plc] using hr1) (((hbw' _).alloc (by simp; omega) _).grown hg1 (by simp; omega) (fun k hk => (hat.row.lt k hk).1)) (by simp [hd1, HTT.out, K1.out, HO.out]) (fun p hp => by rcases List.mem_append.1 hp with hp | hp; exact hlow p hp; simp at hp; omega)⟩
          case measure => simp [intOf]; omega
        by_cases k2 : r.k = 2
        · have K2 := Lib.hid k2
          obtain ⟨W, hW⟩ : ∃ W, W = wr := ⟨_, rfl⟩
          subst hW
          have hbx0 : Blk (W.alloc (.cells #[.int .i64 2, .int .i64 r.c, .int .i64 r.t, .int .i64 r.o] 51)) W.heap.size #[.int .i64 2, .int .i64 r.c, .int .i64 r.t, .int .i64 r.o] 51 := Blk.new _ _ _
          have hr0 := hat.row.alloc (.cells #[.int .i64 2, .int .i64 r.c, .int .i64 r.t, .int .i64 r.o] 51)
          have hb0 := hbw' (.cells #[.int .i64 2, .int .i64 r.c, .int .i64 r.t, .int .i64 r.o] 51)
          have hown := hat.row.lt
          go_wp2
          go_loopw [7, 40] (fun v i wr => ∃ j : Nat, j ≤ ls.length ∧ v = .slice A7 ls.length c7 ∧ i = .int .i64 j ∧ Hid (noAhead rs ls r.o j) ∧ Blk wr W.heap.size #[.int .i64 2, .int .i64 r.c, .int .i64 r.t, .int .i64 r.o] 51 ∧ Row wr w.heap.size 3 1 (.slice A7 ls.length c7) ls.length (plc ls) ∧ Below w.heap.size w wr) (fun _ i _ => ls.length - (intOf i).toNat)
          case atStart => exact ⟨0, by omega, rfl, rfl, Lib.hid (fun i hi => by omega), hbx0, hr0, hb0⟩
          case round =>
            obtain ⟨j, hj, rfl, rfl, hno, hbx, hrw, hbl⟩ := hrel
            clear hbx0 hr0 hb0 d0 d1 d2 d3
            by_cases hjl : j < ls.length
            · have hq := plc_at hjl
              obtain ⟨g, o, u, e7, hgb, hu, hcu⟩ := Reads.at_ hrw.reads hjl
              rw [hq] at hu
              injection hu with hu
              subst hu
              subst e7
              have hpm := hlow (ls.getD j 0) (by simp [List.getD, List.getElem?_eq_getElem hjl])
              obtain ⟨b', of', e', hb', _, _, _, x3⟩ := (h.below' hbl hB).at_ (show ls.getD j 0 < n by omega)
              injection e' with e1
              injection e1 with e1 e2
              subst e1; subst e2
              have hX := Lib.hid (show obAt rs (ls.getD j 0) = (rs.getD (ls.getD j 0) .zero).o from rfl)
              have hno2 := Lib.hid (fun hx : obAt rs (ls.getD j 0) ≠ r.o => no_next hno.out hx)
              have hfd := Lib.hid (fun hx => find_at hjl hno.out hx)
              generalize (rs.getD (ls.getD j 0) .zero).o = x at *
              generalize ls.getD j 0 = p at *
              have hcb := hbx.cell
              have hlb := hbx.lt
              have hpn : (p : Int) < n := by omega
              have hpn' : p < n := by omega
              by_cases hx : x = r.o
              · have hx' : (x == r.o) = true := by simpa using hx
                have hfd2 := Lib.hid (hfd.out (hX.out.trans hx))
                clear hx hq
                go_wp2
                refine wp_region_quiet_lit (by kernel_rfl) (by kernel_rfl) ?_
                repeat (go_big_quiet_step (fail))
                refine wpQuiet_nil ?_
                intro _ hw'
                obtain ⟨nq, rfl⟩ := hw'
                go_wp2_with fail
                have htk := (((hrw.fr ((Fr.refl Nil _).drewN nq) (fun _ _ h => h)).drew.alloc (.cells #[] 3)).take (k := j) (by omega)).reads
                rw [Nat.mul_one] at htk
                have hrow0 : Row ((wr.drewN nq).drew.alloc (.cells #[] 3)) w.heap.size 3 1 (.slice (some ⟨wr.heap.size, 0, none⟩) 0 0) 0 [] := ⟨rfl, .inr ⟨wr.heap.size, 0, 0, #[], rfl, hbl.size, Blk.new (wr.drewN nq).drew #[] 3, Nat.le_refl _, by simp, by simp, fun j u hu => by simp at hu⟩⟩
                obtain ⟨A8, hA8⟩ : ∃ A8, (if c7 = j + 1 then (some ⟨g, o, none⟩ : Option Addr) else some ⟨g, o + (j + 1), none⟩) = A8 := ⟨_, rfl⟩
                have HA8 := Lib.hid hA8
                have hgw : g ≠ wr.heap.size := by omega
                have hafter : ∀ (w2 : World) (A1 : Option Addr) (c1 : Nat), Row w2 w.heap.size 3 1 (.slice A1 (0 + j) c1) (0 + j) ([] ++ (plc ls).take j) → ((wr.drewN nq).drew.alloc (.cells #[] 3)).grownBy w2 (Value.slice (some ⟨wr.heap.size, 0, none⟩) 0 0).ownBlock →
                    Row w2 w.heap.size 3 1 (.slice A1 j c1) j ((plc ls).take j) ∧ Reads w2 w2.heap.size 1 A8 (ls.length - (j + 1)) ((plc ls).drop (j + 1)) ∧ w.heap.size ≤ w2.heap.size := by
                  intro w2 A1 c1 hr1 hg1
                  refine ⟨by simpa using hr1, cut_reads (k := j + 1) (((hrw.fr ((Fr.refl Nil _).drewN nq) (fun _ _ h => h)).drew.alloc (.cells #[] 3)).grown hg1 (fun k hk e => ?_)) (by omega) HA8.out, ?_⟩
                  · simp [Value.ownBlock] at hk e; omega
                  · have h1 := hg1.size; have h2 := hbl.size
                    simp at h1; omega
                have q1 : (j : Int) ≤ c7 := by omega
                have q2 : (j : Int) + 1 ≤ ls.length := by omega
                have q3 : (0 : Int) ≤ (j : Int) + 1 := by omega
                have q4 : IntKind.i64.wrap ((j : Int) + 1) = (j : Int) + 1 := IntWalk.i64_in _ (by omega)
                have q5 : ((j : Int) + 1).toNat = j + 1 := by omega
                go_region_law (first | (refine step_append_row rfl (.tmp 53) (.tmp 56) 23 rfl w.heap.size 3 i0 (.int .i64 0) 1 8 Try.underlying23 hi hz0 hz1 hz2 rfl (by decide) (.slice (some ⟨wr.heap.size, 0, none⟩) 0 0) 0 [] (by simp [Act.eval, Act.put]) hrow0 _ (some ⟨g, o, none⟩) j c7 _ (by simp [Act.eval, Act.put]) htk (fun u hu => plc_one ls u (List.mem_of_mem_take hu)) (by unfold maxLen; omega) (by omega) (by simp; omega) ?_; intro A1 c1 w2 hr1 hg1 ho1; obtain ⟨hr1', hs1, hz1w⟩ := hafter w2 A1 c1 hr1 hg1) | (refine step_append_row rfl (.tmp 57) (.tmp 61) 23 rfl w.heap.size 3 i0 (.int .i64 0) 1 8 Try.underlying23 hi hz0 hz1 hz2 rfl (by decide) (.slice A1 j c1) j ((plc ls).take j) (by simp [Act.eval, Act.put]) hr1' _ A8 (ls.length - (j + 1)) (c7 - (j + 1)) _ (by simp [Act.eval, Act.put]) hs1 (fun u hu => plc_one ls u (List.mem_of_mem_drop hu)) (by unfold maxLen; omega) (by omega) hz1w ?_; intro A2 c2 w3 hr2 hg2 ho2))
                have hlen7 : (ls.take j ++ ls.drop (j + 1)).length = j + (ls.length - (j + 1)) := by rw [List.length_append, List.length_take, List.length_drop]; omega
                have hL7 := Lib.hid hlen7
                have hplc : plc (ls.take j ++ ls.drop (j + 1)) = (plc ls).take j ++ (plc ls).drop (j + 1) := by simp [plc, List.map_take, List.map_drop]
                have hP7 := Lib.hid hplc
                have hlow7 : ∀ p ∈ ls.take j ++ ls.drop (j + 1), p < k + 1 := fun p hp => hlow p (by rcases List.mem_append.1 hp with hp | hp; exact List.mem_of_mem_take hp; exact List.mem_of_mem_drop hp)
                have hB7 : Below w.heap.size w w3 := ((((tk_drewN hbl nq).drew.alloc (by simpa using hbl.size) (.cells #[] 3)).grown hg1 (by have := hbl.size; simp; omega) (fun k hk => by simp [Value.ownBlock] at hk; have := hbl.size; omega))).grown hg2 hz1w (fun k hk => (hr1'.lt k hk).1)
                clear hlen7 hplc q4 q5 hA8 hafter
                generalize hls7 : ls.take j ++ ls.drop (j + 1) = ls7 at *
                have HLS := Lib.hid hls7
                clear hls7
                rw [← hP7.out, ← hL7.out] at hr2
                rw [← hL7.out]
                clear hg1 hg2 ho1 ho2 hr1 hr1' hs1 htk hrow0 q1 q2 q3
                go_wp2
                go_roundw
                case rel => exact ⟨k + 1, ls7, by omega, by go_num, hNx.out _ _ _ hr2 hB7 (by simp [hd1, HTT.out, K2.out, hfd2.out]) hlow7⟩
                case measure => simp [intOf]; omega
              · have hx' : (x == r.o) = false := by simpa using hx
                have hno3 := Lib.hid (hno2.out (by rw [hX.out]; exact hx))
                clear hx hq
                go_wp2
                refine wp_region_quiet_lit (by kernel_rfl) (by kernel_rfl) ?_
                repeat (go_big_quiet_step (fail))
                refine wpQuiet_nil ?_
                intro _ hw'
                obtain ⟨nq, rfl⟩ := hw'
                go_wp2
                go_roundw
                case rel => exact ⟨j + 1, by omega, rfl, by go_num, hno3, hbx.drewN _, hrw.fr ((Fr.refl Nil _).drewN _) (fun _ _ h => h), tk_drewN hbl _⟩
                case measure => simp [intOf]; omega
            · obtain rfl : j = ls.length := by omega
              have hfd := Lib.hid (find_none hno.out)
              go_wp2
              go_roundw
              case rel => exact ⟨k + 1, ls, by omega, by go_num, hNx.out _ _ _ hrw hbl (by simp [hd1, HTT.out, K2.out, hfd.out]) hlow⟩
              case measure => simp [intOf]; omega
        go_wp2
        go_roundw
        case rel => exact ⟨k + 1, ls, by omega, by go_num, hNx.out _ _ _ (hat.row.alloc _) (hbw' _) (by simp [hd1, HTT.out, k1, k2]) hlow⟩
        case measure => simp [intOf]; omega
      · have htt' : (r.t != t) = true := by simpa using htt
        have HTT := Lib.hid htt
        clear htt
        go_wp2
        go_roundw
        case rel => exact ⟨k + 1, ls, by omega, by go_num, hNx.out _ _ _ (hat.row.alloc _) (hbw' _) (by simp [hd1, HTT.out]) hlow⟩
        case measure => simp [intOf]; omega
    · obtain rfl : k = m := by omega
      obtain ⟨W, hW⟩ : ∃ W, W = wr := ⟨_, rfl⟩
      subst hW
      have hrow0 : Row W W.heap.size 3 1 (.slice none 0 0) 0 [] := Row.nil _ _ _ _
      go_wp2
      go_loopw [12, 66] (fun v i wr => ∃ j : Nat, j ≤ ls.length ∧ i = .int .i64 j ∧ Row wr W.heap.size 3 1 v j ((ls.take j).map fun p => .int .i64 (obAt rs p)) ∧ Below W.heap.size W wr) (fun _ i _ => ls.length - (intOf i).toNat)
      case atStart => exact ⟨0, by omega, rfl, hrow0, Below.refl _ _⟩
      case round =>
        obtain ⟨j, hj, rfl, hrw, hbl⟩ := hrel
        clear hrow0
        obtain ⟨A6, c6, hv, hc3, hc4⟩ := hrw.shape
        subst hv
        unfold maxLen at hc4
        by_cases hjl : j < ls.length
        · have hq := plc_at hjl
          have hsz := hat.low.size
          have hsz2 := hbl.size
          obtain ⟨g, o, u, e7, hgb, hu, hcu⟩ := Reads.at_ (hat.row.grow hbl).reads hjl
          rw [hq] at hu
          injection hu with hu
          subst hu
          subst e7
          have hpm := hat.lt (ls.getD j 0) (by simp [List.getD, List.getElem?_eq_getElem hjl])
          obtain ⟨b, of, rfl, hb, _, _, _, x3⟩ := ((h.below' hat.low hB).below' hbl (by omega)).at_ (show ls.getD j 0 < n by omega)
          have hX := Lib.hid (show obAt rs (ls.getD j 0) = (rs.getD (ls.getD j 0) .zero).o from rfl)
          have hT := Lib.hid (show (ls.take (j + 1)).map (fun p => Value.int .i64 (obAt rs p)) = (ls.take j).map (fun p => Value.int .i64 (obAt rs p)) ++ [.int .i64 (obAt rs (ls.getD j 0))] by
            rw [List.take_succ_eq_append_getElem hjl, List.map_append, List.map_singleton, List.getD, List.getElem?_eq_getElem hjl]; rfl)
          generalize (rs.getD (ls.getD j 0) .zero).o = x at *
          generalize ls.getD j 0 = p at *
          have hpn : (p : Int) < n := by omega
          have hpn' : p < n := by omega
          clear hq
          go_wp2_with (at_builtin; refine wpList_append_row _ rfl (.tmp 70) (.tmp 76) 23 rfl W.heap.size 3 i0 (.int .i64 0) 1 8 Try.underlying23 hi hz0 hz1 hz2 rfl (by decide) (.slice A6 j c6) j _ rfl (hrw.alloc _) (wr.heap.size + 1) (some ⟨wr.heap.size, 0, none⟩) 1 1 [.int .i64 x] rfl (reads_one wr _ 3) (by simp [Value.oneCell']) (by unfold maxLen; omega) (by omega) (by simp; omega) ?_)
          intro A1 c1 w2 hr1 hg1 ho1
          have hB2 : Below W.heap.size W w2 := (hbl.alloc hsz2 _).grown hg1 (by simp; omega) (fun k hk => (hrw.lt k hk).1)
          have hr1' : Row w2 W.heap.size 3 1 (.slice A1 (j + 1) c1) (j + 1) ((ls.take (j + 1)).map fun p => .int .i64 (obAt rs p)) := by rw [hT.out, hX.out]; simpa [List.map_take] using hr1
          clear hr1
          go_wp2
          go_roundw
          case rel => exact ⟨j + 1, by omega, by go_num, hr1', hB2⟩
          case measure => simp [intOf]; omega
        · obtain rfl : j = ls.length := by omega
          have hsz := hat.low.size
          rw [List.take_length] at hrw
          have hlen : (hd (rs.take k) t).length = ls.length := by rw [← hat.eq, List.length_map]
          have HE := Lib.hid hat.eq
          have HH := Lib.hid hlen
          clear hlen
          have hlow := hat.low
          clear hat
          go_wp2
          go_ret
          exact ⟨A6, c6, by rw [HH.out]; rfl, by rw [HH.out, ← HE.out, List.map_map]; exact hrw.base_le hsz, hlow.trans (hbl.mono hsz)⟩
end Go.Proofs.Ytmfalafolpfhiaa
