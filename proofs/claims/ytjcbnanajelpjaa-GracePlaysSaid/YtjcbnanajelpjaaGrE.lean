/- Contract of grace.Call. -/
import Derived.Test.YtjcbnanajelpjaaGrD
namespace Go.Proofs.Ytjcbnanajelpjaa
open Go.RowKit
set_option maxHeartbeats 400000
set_option linter.unusedVariables false
set_option linter.unusedSimpArgs false
def wcells (id : Int) (f : Nat → Int) : Array Value := #[.int .i64 id, .int .i64 (f 0), .int .i64 (f 1), .int .i64 (f 2), .int .i64 (f 3)]
theorem wcells_set (id : Int) (f : Nat → Int) {i : Nat} (h : i < 4) (x : Int) : (wcells id f).setIfInBounds (1 + i) (.int .i64 x) = wcells id (upd f i x) := by
  rcases lt4 h with rfl | rfl | rfl | rfl <;> rfl
theorem wcells_at (id : Int) (f : Nat → Int) {i : Nat} (h : i < 4) : (wcells id f)[1 + i]? = some (.int .i64 (f i)) := by
  rcases lt4 h with rfl | rfl | rfl | rfl <;> rfl
def wv (d t : Nat → Int) (k : Nat) : Nat → Int := fun j => if j < k ∧ 0 < d j then t j else 0
theorem wv_yes (d t : Nat → Int) (k : Nat) (h : 0 < d k) : upd (wv d t k) k (t k) = wv d t (k + 1) := by
  funext j
  unfold upd wv
  by_cases hj : j = k
  · subst hj; rw [if_pos rfl, if_pos ⟨Nat.lt_succ_self _, h⟩]
  · rw [if_neg hj]
    by_cases hk : j < k ∧ 0 < d j
    · rw [if_pos hk, if_pos ⟨by omega, hk.2⟩]
    · rw [if_neg hk, if_neg (fun h => hk ⟨by omega, h.2⟩)]
theorem wv_no (d t : Nat → Int) (k : Nat) (h : ¬ 0 < d k) : wv d t k = wv d t (k + 1) := by
  funext j
  unfold wv
  by_cases hk : j < k ∧ 0 < d j
  · rw [if_pos hk, if_pos ⟨by omega, hk.2⟩]
  · rw [if_neg hk]
    by_cases hj : j = k
    · subst hj; rw [if_neg (fun h' => h h'.2)]
    · rw [if_neg (fun h' => hk ⟨by omega, h'.2⟩)]
def newC (id : Int) (d t : Nat → Int) : GC := ⟨id, wv d t 4⟩
set_option maxRecDepth 100000 in
theorem call_there (g : Nat) (d t : Nat → Int) (v : Value) (cs : List GC) (x : Int) (w : World) (B : Nat) (h : GrSt w B g d t v cs) (hl : cs.length ≤ 256) (hx : GC.has cs x = true) :
    Calls Try.prog 59 #[.pointer (some ⟨g, 0, none⟩), .int .i64 x] w fun e w' => e = .returned (.int .i64 5) ∧ Below w.heap.size w w' := by
  obtain ⟨A, c, hv, hc1, hc2⟩ := h.row.shape
  subst hv
  have c8 := h.blk.cell 8
  rw [show (gcells d t (.slice A cs.length c))[8]? = some (.slice A cs.length c) from rfl] at c8
  have hgl := h.blk.lt
  have hmf : ∀ fn first cap w, (Instr.makeFunc fn first cap).run Try.prog w = .ok (.func fn first cap) w := fun _ _ _ _ => rfl
  have hn : ¬ g = w.heap.size := by omega
  have HX := Lib.hid hx
  clear hx
  go_enter Try.func59, Try.ntmps59
  go_wp2_with fail
  refine (has74 x w.heap.size A cs.length c cs _ w.heap.size ⟨h.row.reads.alloc (Nat.le_refl _) _, rfl⟩ (by simp) (by omega) ?_ HX.out).mono ?_
  · rw [(Blk.new w #[.int .i64 x] 3).cell]; rfl
  rintro e w1 ⟨rfl, hb⟩
  go_wp2
  go_ret
  exact ⟨rfl, ((Below.refl _ _).alloc (Nat.le_refl _) _).trans (hb.mono (by simp))⟩
set_option maxRecDepth 100000 in
theorem call_full (g : Nat) (d t : Nat → Int) (v : Value) (cs : List GC) (x : Int) (w : World) (B : Nat) (h : GrSt w B g d t v cs) (hl : cs.length = 256) (hx : GC.has cs x = false) :
    Calls Try.prog 59 #[.pointer (some ⟨g, 0, none⟩), .int .i64 x] w fun e w' => e = .returned (.int .i64 6) ∧ Below w.heap.size w w' := by
  obtain ⟨A, c, hv, hc1, hc2⟩ := h.row.shape
  subst hv
  have c8 := h.blk.cell 8
  rw [show (gcells d t (.slice A cs.length c))[8]? = some (.slice A cs.length c) from rfl] at c8
  have hgl := h.blk.lt
  have hmf : ∀ fn first cap w, (Instr.makeFunc fn first cap).run Try.prog w = .ok (.func fn first cap) w := fun _ _ _ _ => rfl
  have hn : ¬ g = w.heap.size := by omega
  have HX := Lib.hid hx
  have HL := Lib.hid hl
  clear hx hl
  go_enter Try.func59, Try.ntmps59
  go_wp2_with fail
  refine (has74 x w.heap.size A cs.length c cs _ w.heap.size ⟨h.row.reads.alloc (Nat.le_refl _) _, rfl⟩ (by simp) (by rw [HL.out]; omega) ?_ HX.out).mono ?_
  · rw [(Blk.new w #[.int .i64 x] 3).cell]; rfl
  rintro e w1 ⟨rfl, hb⟩
  have hbw : Below w.heap.size w w1 := ((Below.refl _ _).alloc (Nat.le_refl _) _).trans (hb.mono (by simp))
  have c9 := (hbw.cell (p := ⟨g, 8, none⟩) hgl).trans c8
  have q : ((cs.length : Int) == 256) = true := by rw [HL.out]; rfl
  go_wp2
  go_ret
  exact ⟨rfl, hbw⟩
theorem GrSt.append {w w' : World} {B g : Nat} {d t : Nat → Int} {v v' : Value} {cs : List GC} {y : GC} {X : Obj} (h : GrSt w B g d t v cs) (hr : Row w' B 133 5 v' (cs.length + 1) (cs.flatMap GC.cells ++ y.cells)) (hg : (w.alloc X).grownBy w' v.ownBlock) (ho : v'.ownBlock = v.ownBlock ∨ v'.ownBlock = some (w.heap.size + 1)) :
    GrGo w B g v d t (cs ++ [y]) (w'.setCell ⟨g, 8, none⟩ v') := by
  have hlt := h.blk.lt
  have hne := own_ne ho h.ne (by omega : g < w.heap.size + 1)
  have h1 : GrSt w' B g d t v' (cs ++ [y]) ∨ True := .inr trivial
  have hb' : Blk w' g (gcells d t v) 130 := (h.blk.alloc X).grown hg (Ne.symm h.ne)
  refine ⟨v', ⟨?_, ?_, h.low, hne⟩, ?_, fun k hk => ?_⟩
  · have := hb'.set 8 v'
    rwa [gcells_setv] at this
  · have := hr.setCell (p := ⟨g, 8, none⟩) hne v'
    simpa using this
  · exact ((((Fr.refl _ w).alloc X).grown hg (fun k e _ => .inr e))).setCell (p := ⟨g, 8, none⟩) (fun _ => .inl rfl) _
  · rcases hk with hk | hk
    · exact .inl (.inl hk)
    · rcases own_cases ho hk with h2 | rfl
      · exact .inl (.inr h2)
      · exact .inr (by omega)
theorem GrGo.of_below {w w1 w' : World} {B g : Nat} {v : Value} {d t : Nat → Int} {cs : List GC} (hb : Below w.heap.size w w1) (h : GrGo w1 B g v d t cs w') : GrGo w B g v d t cs w' := by
  obtain ⟨v', h1, h2, h3⟩ := h
  refine ⟨v', h1, ((Fr.of_grow hb).mono (fun _ _ h => h.elim)).trans' h2, fun k hk => ?_⟩
  rcases h3 k hk with h4 | h4
  · exact .inl h4
  · exact .inr (Nat.le_trans hb.size h4)
def CallGo (w : World) (B g : Nat) (v : Value) (d t : Nat → Int) (cs : List GC) (x : Int) (e : Ending) (w' : World) : Prop := e = .returned (.int .i64 0) ∧ GrGo w B g v d t (cs ++ [newC x d t]) w'
set_option maxHeartbeats 2000000 in
set_option maxRecDepth 100000 in
theorem call_any (g : Nat) (d t : Nat → Int) (v : Value) (cs : List GC) (x : Int) (w : World) (B : Nat) (h : GrSt w B g d t v cs) (hB : B ≤ w.heap.size) (hl : cs.length < 256) (hx : GC.has cs x = false) :
    Calls Try.prog 59 #[.pointer (some ⟨g, 0, none⟩), .int .i64 x] w (CallGo w B g v d t cs x) := by
  obtain ⟨i5, hi5, hy0, hy1, hy2⟩ := info_parts Try.info133
  obtain ⟨A, c, hv, hc1, hc2⟩ := h.row.shape
  subst hv
  have c8 := h.blk.cell 8
  rw [show (gcells d t (.slice A cs.length c))[8]? = some (.slice A cs.length c) from rfl] at c8
  have hgl := h.blk.lt
  have hmf : ∀ fn first cap w, (Instr.makeFunc fn first cap).run Try.prog w = .ok (.func fn first cap) w := fun _ _ _ _ => rfl
  have hn : ¬ g = w.heap.size := by omega
  have HX := Lib.hid hx
  clear hx
  go_enter Try.func59, Try.ntmps59
  go_wp2_with fail
  refine (has74 x w.heap.size A cs.length c cs _ w.heap.size ⟨h.row.reads.alloc (Nat.le_refl _) _, rfl⟩ (by simp) (by omega) ?_ HX.out).mono ?_
  · rw [(Blk.new w #[.int .i64 x] 3).cell]; rfl
  rintro e w1 ⟨rfl, hb⟩
  have hbw : Below w.heap.size w w1 := ((Below.refl _ _).alloc (Nat.le_refl _) _).trans (hb.mono (by simp))
  have hc1' : w1.cell? ⟨w.heap.size, 0, none⟩ = some (.int .i64 x) := by
    have h1 := (Blk.new w #[.int .i64 x] 3).cell 0
    exact (hb.cell (p := ⟨w.heap.size, 0, none⟩) (by simp)).trans h1
  have c9 := (hbw.cell (p := ⟨g, 8, none⟩) hgl).trans c8
  have q : ((cs.length : Int) == 256) = false := by simp; omega
  have hlt1 : w.heap.size < w1.heap.size := lt_cell hc1'
  have hst0 : Blk (w1.alloc (.cells (wcells x (wv d t 0)) 133)) w1.heap.size (wcells x (wv d t 0)) 133 := Blk.new _ _ _
  have hb0 : Below w.heap.size w (w1.alloc (.cells (wcells x (wv d t 0)) 133)) := hbw.alloc hbw.size _
  clear hb
  go_wp2
  go_loopw [21] (fun i wr => ∃ k : Nat, k ≤ 4 ∧ i = .int .i64 k ∧ Blk wr w1.heap.size (wcells x (wv d t k)) 133 ∧ Below w.heap.size w wr) (fun i _ => 4 - (intOf i).toNat)
  case atStart => exact ⟨0, by omega, rfl, hst0, hb0⟩
  case round =>
    obtain ⟨k, hk, rfl, hbk, hbl⟩ := hrel
    clear hst0 hb0
    have hS := h.keep (Fr.of_grow hbl) (fun _ _ h => h)
    by_cases hlt : k < 4
    · have d0 := hS.blk.cell k
      rw [gcells_d d t _ hlt] at d0
      have d1 := hS.blk.cell (4 + k)
      rw [gcells_t d t _ hlt] at d1
      have b1 := hbk.cell (1 + k)
      rw [wcells_at x _ hlt] at b1
      have b2 := hbk.free (1 + k)
      have b3 := hbk.lt
      have hk4 : (k : Int) < 4 := by omega
      by_cases h1 : 0 < d k
      · have hw := hbk.set (1 + k) (.int .i64 (t k))
        rw [wcells_set x _ hlt, wv_yes d t k h1] at hw
        generalize d k = y at *
        generalize t k = z at *
        go_wp2
        go_roundw
        case rel => exact ⟨k + 1, by omega, by go_num, hw, hbl.setCell (by simpa using Nat.le_of_lt hlt1) _⟩
        case measure => simp [intOf]; omega
      · rw [wv_no d t k h1] at hbk
        generalize d k = y at *
        go_wp2
        go_roundw
        case rel => exact ⟨k + 1, by omega, by go_num, hbk, hbl⟩
        case measure => simp [intOf]; omega
    · obtain rfl : k = 4 := by omega
      have b0 := hbk.cell 0
      have b1 := hbk.cell 1
      have b2 := hbk.cell 2
      have b3 := hbk.cell 3
      have b4 := hbk.cell 4
      rw [show (wcells x (wv d t 4))[0]? = some (.int .i64 x) from rfl] at b0
      rw [show (wcells x (wv d t 4))[1]? = some (.int .i64 (wv d t 4 0)) from rfl] at b1
      rw [show (wcells x (wv d t 4))[2]? = some (.int .i64 (wv d t 4 1)) from rfl] at b2
      rw [show (wcells x (wv d t 4))[3]? = some (.int .i64 (wv d t 4 2)) from rfl] at b3
      rw [show (wcells x (wv d t 4))[4]? = some (.int .i64 (wv d t 4 3)) from rfl] at b4
      have d8 := hS.blk.cell 8
      rw [show (gcells d t (.slice A cs.length c))[8]? = some (.slice A cs.length c) from rfl] at d8
      have hsl := hS.blk.lt
      have hsf := hS.blk.free
      have hK := Lib.hid (fun (w2 : World) (A1 : Option Addr) (c1 : Nat) (X : Obj) => hS.drew.append (w' := w2) (v' := .slice A1 (cs.length + 1) c1) (y := newC x d t) (X := X))
      have hB0 := Lib.hid (hbl.drew)
      have hwsz := hbl.size
      go_wp2_with fail
      go_region_law (refine step_append_row rfl (.tmp 45) (.tmp 47) 128 rfl B 133 i5 _ 5 40 Try.underlying128 hi5 hy0 hy1 hy2 rfl (by decide) (.slice A cs.length c) cs.length _ (by simp [Act.eval, Act.put]) (hS.row.drew.alloc _) (wr.heap.size + 1) (some ⟨wr.heap.size, 0, none⟩) 1 1 (newC x d t).cells (by simp [Act.eval, Act.put]) (reads_five wr.drew _ _ _ _ _ 133) (gc_one _) (by unfold maxLen; omega) (by omega) (by simp; omega) ?_; intro A1 c1 w2 hr1 hg1 ho1; have hb1 := (hS.blk.drew.alloc _).grown hg1 (Ne.symm h.ne); have hc' : w2.cell? ⟨g, 8, none⟩ = some (.slice A cs.length c) := hb1.cell 8; have hf' := hb1.free; have hlt' := hb1.lt)
      all_goals
        have hfin := hK.out w2 A1 c1 _ (by simpa using hr1) hg1 (ho1.imp id (fun e => e.trans (by simp)))
        have HFIN := Lib.hid hfin
        clear hfin hK hc' hf' hlt' hb1 ho1 hg1 hr1
        go_wp2
        go_ret
        exact ⟨rfl, GrGo.of_below hB0.out HFIN.out⟩
end Go.Proofs.Ytjcbnanajelpjaa
