/- Readers (grace.Grace): what is held of one, and contracts of New, Enter, Leave. -/
import Derived.Test.YtjcbnanajelpjaaSlA
import Derived.Deep.RegionLaw
namespace Go.Proofs.Ytjcbnanajelpjaa
open Go.RowKit
set_option maxHeartbeats 400000
set_option linter.unusedVariables false
set_option linter.unusedSimpArgs false
def upd (f : Nat → Int) (i : Nat) (x : Int) : Nat → Int := fun j => if j = i then x else f j
theorem upd_same (f : Nat → Int) (i : Nat) (x : Int) : upd f i x i = x := by simp [upd]
theorem upd_ne (f : Nat → Int) {i j : Nat} (x : Int) (h : j ≠ i) : upd f i x j = f j := by simp [upd, h]
def gcells (d t : Nat → Int) (v : Value) : Array Value := #[.int .i64 (d 0), .int .i64 (d 1), .int .i64 (d 2), .int .i64 (d 3), .int .i64 (t 0), .int .i64 (t 1), .int .i64 (t 2), .int .i64 (t 3), v]
theorem lt4 {i : Nat} (h : i < 4) : i = 0 ∨ i = 1 ∨ i = 2 ∨ i = 3 := by omega
theorem gcells_d (d t : Nat → Int) (v : Value) {i : Nat} (h : i < 4) : (gcells d t v)[i]? = some (.int .i64 (d i)) := by
  rcases lt4 h with rfl | rfl | rfl | rfl <;> rfl
theorem gcells_t (d t : Nat → Int) (v : Value) {i : Nat} (h : i < 4) : (gcells d t v)[4 + i]? = some (.int .i64 (t i)) := by
  rcases lt4 h with rfl | rfl | rfl | rfl <;> rfl
theorem gcells_setd (d t : Nat → Int) (v : Value) {i : Nat} (h : i < 4) (x : Int) : (gcells d t v).setIfInBounds i (.int .i64 x) = gcells (upd d i x) t v := by
  rcases lt4 h with rfl | rfl | rfl | rfl <;> rfl
theorem gcells_sett (d t : Nat → Int) (v : Value) {i : Nat} (h : i < 4) (x : Int) : (gcells d t v).setIfInBounds (4 + i) (.int .i64 x) = gcells d (upd t i x) v := by
  rcases lt4 h with rfl | rfl | rfl | rfl <;> rfl
theorem gcells_setv (d t : Nat → Int) (v v' : Value) : (gcells d t v).setIfInBounds 8 v' = gcells d t v' := rfl
/-- A call that waits: which turn of each processor it waits for. -/
structure GC where
  id : Int
  w : Nat → Int
def GC.cells (c : GC) : List Value := [.int .i64 c.id, .int .i64 (c.w 0), .int .i64 (c.w 1), .int .i64 (c.w 2), .int .i64 (c.w 3)]
/-- A Grace at block g. -/
structure GrSt (w : World) (B g : Nat) (d t : Nat → Int) (v : Value) (cs : List GC) : Prop where
  blk : Blk w g (gcells d t v) 130
  row : Row w B 133 5 v cs.length (cs.flatMap GC.cells)
  low : B ≤ g
  ne : v.ownBlock ≠ some g
def GrF (g : Nat) (v : Value) : Nat → Prop := fun k => k = g ∨ v.ownBlock = some k
def GrGo (w : World) (B g : Nat) (v : Value) (d t : Nat → Int) (cs : List GC) (w' : World) : Prop :=
  ∃ v', GrSt w' B g d t v' cs ∧ Fr (GrF g v) w w' ∧ ∀ k, GrF g v' k → GrF g v k ∨ w.heap.size ≤ k
theorem GrSt.keep {w w' : World} {B g : Nat} {d t : Nat → Int} {v : Value} {cs : List GC} (h : GrSt w B g d t v cs) {S : Nat → Prop} (hf : Fr S w w') (hn : ∀ k, GrF g v k → ¬ S k) : GrSt w' B g d t v cs :=
  ⟨h.blk.fr hf (hn g (.inl rfl)), h.row.fr hf (fun k hk => hn k (.inr hk)), h.low, h.ne⟩
theorem GrSt.lowF {w : World} {B g : Nat} {d t : Nat → Int} {v : Value} {cs : List GC} (h : GrSt w B g d t v cs) : ∀ k, GrF g v k → B ≤ k := fun k hk => by
  rcases hk with rfl | hk
  · exact h.low
  · exact (h.row.lt k hk).1
/-- A store into the object's own numbers. -/
theorem GrSt.setd {w : World} {B g : Nat} {d t : Nat → Int} {v : Value} {cs : List GC} (h : GrSt w B g d t v cs) {i : Nat} (hi : i < 4) (x : Int) : GrSt (w.setCell ⟨g, i, none⟩ (.int .i64 x)) B g (upd d i x) t v cs :=
  ⟨by have := h.blk.set i (.int .i64 x)
      rwa [gcells_setd d t v hi] at this, h.row.setCell (p := ⟨g, i, none⟩) h.ne _, h.low, h.ne⟩
theorem GrSt.sett {w : World} {B g : Nat} {d t : Nat → Int} {v : Value} {cs : List GC} (h : GrSt w B g d t v cs) {i : Nat} (hi : i < 4) (x : Int) : GrSt (w.setCell ⟨g, 4 + i, none⟩ (.int .i64 x)) B g d (upd t i x) v cs :=
  ⟨by have := h.blk.set (4 + i) (.int .i64 x)
      rwa [gcells_sett d t v hi] at this, h.row.setCell (p := ⟨g, 4 + i, none⟩) h.ne _, h.low, h.ne⟩
theorem GrSt.drew {w : World} {B g : Nat} {d t : Nat → Int} {v : Value} {cs : List GC} (h : GrSt w B g d t v cs) : GrSt w.drew B g d t v cs := ⟨h.blk, h.row, h.low, h.ne⟩
theorem newGrace_any (w : World) : Calls Try.prog 56 #[] w fun e w' => e = .returned (.pointer (some ⟨w.heap.size, 0, none⟩)) ∧ w' = w.alloc (.cells (gcells (fun _ => 0) (fun _ => 0) (.slice none 0 0)) 130) := by
  go_enter Try.func56, Try.ntmps56
  go_wp2
  go_ret
  exact ⟨rfl, rfl⟩
theorem enter_bad (g : Nat) (x : Int) (w : World) (h : x < 0 ∨ 3 < x) :
    Calls Try.prog 58 #[.pointer (some ⟨g, 0, none⟩), .int .i64 x] w fun e w' => e = .returned (.int .i64 1) ∧ w = w' := by
  rcases h with h | h
  · have d : decide (x < 0) = true := by simpa using h
    go_enter Try.func58, Try.ntmps58
    go_wp2
    go_ret
    exact ⟨rfl, rfl⟩
  · have d : decide (x < 0) = false := by simp; omega
    have d' : 4 ≤ x := by omega
    go_enter Try.func58, Try.ntmps58
    go_wp2
    go_ret
    exact ⟨rfl, rfl⟩
theorem leave_bad (g : Nat) (x : Int) (w : World) (h : x < 0 ∨ 3 < x) :
    Calls Try.prog 57 #[.pointer (some ⟨g, 0, none⟩), .int .i64 x] w fun e w' => e = .returned (.int .i64 1) ∧ w = w' := by
  rcases h with h | h
  · have d : decide (x < 0) = true := by simpa using h
    go_enter Try.func57, Try.ntmps57
    go_wp2
    go_ret
    exact ⟨rfl, rfl⟩
  · have d : decide (x < 0) = false := by simp; omega
    have d' : 4 ≤ x := by omega
    go_enter Try.func57, Try.ntmps57
    go_wp2
    go_ret
    exact ⟨rfl, rfl⟩
set_option maxRecDepth 100000 in
theorem enter_full (g : Nat) (d t : Nat → Int) (v : Value) (cs : List GC) (w : World) (B : Nat) (h : GrSt w B g d t v cs) (i : Nat) (hi : i < 4) (hd : d i = 8) :
    Calls Try.prog 58 #[.pointer (some ⟨g, 0, none⟩), .int .i64 i] w fun e w' => e = .returned (.int .i64 6) ∧ w = w' := by
  have c0 := h.blk.cell i
  rw [gcells_d d t v hi, hd] at c0
  have q : ¬ (4 : Int) ≤ i := by omega
  have q0 : (i : Int) < 4 := by omega
  clear hd
  go_enter Try.func58, Try.ntmps58
  go_wp2
  go_ret
  exact ⟨rfl, rfl⟩
set_option maxRecDepth 100000 in
theorem leave_none (g : Nat) (d t : Nat → Int) (v : Value) (cs : List GC) (w : World) (B : Nat) (h : GrSt w B g d t v cs) (i : Nat) (hi : i < 4) (hd : d i = 0) :
    Calls Try.prog 57 #[.pointer (some ⟨g, 0, none⟩), .int .i64 i] w fun e w' => e = .returned (.int .i64 8) ∧ w = w' := by
  have c0 := h.blk.cell i
  rw [gcells_d d t v hi, hd] at c0
  have q : ¬ (4 : Int) ≤ i := by omega
  have q0 : (i : Int) < 4 := by omega
  clear hd
  go_enter Try.func57, Try.ntmps57
  go_wp2
  go_ret
  exact ⟨rfl, rfl⟩
theorem fr_sett {w w' : World} {g : Nat} {v : Value} (h : Fr (GrF g v) w w') (j : Nat) (u : Value) : Fr (GrF g v) w (w'.setCell ⟨g, j, none⟩ u) := h.setCell (p := ⟨g, j, none⟩) (fun _ => .inl rfl) u
def EntGo (w : World) (B g : Nat) (v : Value) (d t : Nat → Int) (cs : List GC) (i : Nat) (e : Ending) (w' : World) : Prop :=
  e = .returned (.int .i64 0) ∧ GrSt w' B g (upd d i (d i + 1)) (if d i = 0 then upd t i (t i + 1) else t) v cs ∧ Fr (GrF g v) w w'
def LvGo (w : World) (B g : Nat) (v : Value) (d t : Nat → Int) (cs : List GC) (i : Nat) (e : Ending) (w' : World) : Prop :=
  e = .returned (.int .i64 0) ∧ GrSt w' B g (upd d i (d i - 1)) t v cs ∧ Fr (GrF g v) w w'
set_option maxHeartbeats 1000000 in
set_option maxRecDepth 100000 in
theorem leave_any (g : Nat) (d t : Nat → Int) (v : Value) (cs : List GC) (w : World) (B : Nat) (h : GrSt w B g d t v cs) (i : Nat) (hi : i < 4) (hd : 0 < d i ∧ d i ≤ 8) :
    Calls Try.prog 57 #[.pointer (some ⟨g, 0, none⟩), .int .i64 i] w (LvGo w B g v d t cs i) := by
  have c0 := h.blk.cell i
  rw [gcells_d d t v hi] at c0
  have f0 := h.blk.free i
  have hlt := h.blk.lt
  have q : ¬ (4 : Int) ≤ i := by omega
  have q0 : (i : Int) < 4 := by omega
  have H := Lib.hid (h.drew.setd hi (d i - 1))
  unfold LvGo
  generalize d i = x at *
  have hx : (x == 0) = false := by simp; omega
  go_enter Try.func57, Try.ntmps57
  go_wp2
  go_region
  go_wp2
  go_ret
  exact ⟨rfl, H.out, fr_sett (Fr.refl _ w).drew _ _⟩
set_option maxHeartbeats 1000000 in
set_option maxRecDepth 100000 in
theorem enter_any (g : Nat) (d t : Nat → Int) (v : Value) (cs : List GC) (w : World) (B : Nat) (h : GrSt w B g d t v cs) (i : Nat) (hi : i < 4) (hd : 0 ≤ d i ∧ d i < 8) (ht : 0 ≤ t i ∧ t i ≤ 1000000000000000) :
    Calls Try.prog 58 #[.pointer (some ⟨g, 0, none⟩), .int .i64 i] w (EntGo w B g v d t cs i) := by
  have c0 := h.blk.cell i
  rw [gcells_d d t v hi] at c0
  have c1 := h.blk.cell (4 + i)
  rw [gcells_t d t v hi] at c1
  have f0 := h.blk.free i
  have f1 := h.blk.free (4 + i)
  have hlt := h.blk.lt
  have q : ¬ (4 : Int) ≤ i := by omega
  have q0 : (i : Int) < 4 := by omega
  have q1 : ¬ 4 + i = i := by omega
  have q2 : ¬ i = 4 + i := by omega
  by_cases hz : d i = 0
  · have H := Lib.hid ((h.drew.sett hi (t i + 1)).drew.setd hi (d i + 1))
    have HT := Lib.hid (show (if d i = 0 then upd t i (t i + 1) else t) = upd t i (t i + 1) from if_pos hz)
    unfold EntGo
    rw [HT.out]
    clear HT
    rw [hz] at H c0 ⊢
    clear hz hd
    generalize t i = y at *
    go_enter Try.func58, Try.ntmps58
    go_wp2
    go_region
    go_wp2
    go_region
    go_wp2
    go_ret
    exact ⟨rfl, H.out, fr_sett (fr_sett (Fr.refl _ w).drew _ _).drew _ _⟩
  · have H := Lib.hid (h.drew.setd hi (d i + 1))
    have HT := Lib.hid (show (if d i = 0 then upd t i (t i + 1) else t) = t from if_neg hz)
    unfold EntGo
    rw [HT.out]
    clear HT
    generalize d i = x at *
    have hx : (x == 0) = false := by simpa using hz
    have hx8 : (x == 8) = false := by simp; omega
    go_enter Try.func58, Try.ntmps58
    go_wp2
    go_region
    go_wp2
    go_ret
    exact ⟨rfl, H.out, fr_sett (Fr.refl _ w).drew _ _⟩
end Go.Proofs.Ytjcbnanajelpjaa
