/- Semaphores (sem.Sem): what is held of one, and contracts of its methods. -/
import Derived.Test.YtjcbnanajelpjaaSlA
import Derived.Deep.RegionLaw
import Derived.Deep.RegionWith
namespace Go.Proofs.Ytjcbnanajelpjaa
open Go.RowKit
set_option maxHeartbeats 400000
set_option linter.unusedVariables false
set_option linter.unusedSimpArgs false
/-- A semaphore at block g: its count n, its row vr. -/
structure SemSt (w : World) (B g : Nat) (vr : Value) (n : Int) (row : List Int) : Prop where
  blk : Blk w g #[.int .i64 n, vr] 122
  row : Row w B 3 1 vr row.length (row.map (Value.int .i64))
  low : B ≤ g
  n1 : vr.ownBlock ≠ some g
def SemF (g : Nat) (vr : Value) : Nat → Prop := fun k => k = g ∨ vr.ownBlock = some k
def SemGo (w : World) (B g : Nat) (vr : Value) (n : Int) (row : List Int) (w' : World) : Prop :=
  ∃ vr', SemSt w' B g vr' n row ∧ Fr (SemF g vr) w w' ∧ ∀ k, SemF g vr' k → SemF g vr k ∨ w.heap.size ≤ k
theorem SemSt.keep {w w' : World} {B g : Nat} {vr : Value} {n : Int} {row : List Int} (h : SemSt w B g vr n row) {S : Nat → Prop} (hf : Fr S w w') (hn : ∀ k, SemF g vr k → ¬ S k) : SemSt w' B g vr n row :=
  ⟨h.blk.fr hf (hn g (.inl rfl)), h.row.fr hf (fun k hk => hn k (.inr hk)), h.low, h.n1⟩
theorem SemSt.lowF {w : World} {B g : Nat} {vr : Value} {n : Int} {row : List Int} (h : SemSt w B g vr n row) : ∀ k, SemF g vr k → B ≤ k := fun k hk => by
  rcases hk with rfl | hk
  · exact h.low
  · exact (h.row.lt k hk).1
theorem SemSt.ltF {w : World} {B g : Nat} {vr : Value} {n : Int} {row : List Int} (h : SemSt w B g vr n row) : ∀ k, SemF g vr k → k < w.heap.size := fun k hk => by
  rcases hk with rfl | hk
  · exact h.blk.lt
  · exact (h.row.lt k hk).2
theorem newSem_bad (n : Int) (w : World) (h : n < 0 ∨ 1000 < n) : Calls Try.prog 45 #[.int .i64 n] w fun e w' => e = .returned (.tuple #[.pointer none, .int .i64 1]) ∧ w = w' := by
  rcases h with h | h
  · have d : decide (n < 0) = true := by simpa using h
    go_enter Try.func45, Try.ntmps45
    go_wp2
    go_ret2
    exact ⟨rfl, rfl⟩
  · have d : decide (n < 0) = false := by simp; omega
    have d' : decide (1000 < n) = true := by simpa using h
    go_enter Try.func45, Try.ntmps45
    go_wp2
    go_ret2
    exact ⟨rfl, rfl⟩
theorem newSem_ok (n : Int) (w : World) (h : 0 ≤ n ∧ n ≤ 1000) : Calls Try.prog 45 #[.int .i64 n] w fun e w' => e = .returned (.tuple #[.pointer (some ⟨w.heap.size, 0, none⟩), .int .i64 0]) ∧ w' = w.alloc (.cells #[.int .i64 n, .slice none 0 0] 122) := by
  have d : decide (n < 0) = false := by simp; omega
  have d' : decide (1000 < n) = false := by simp; omega
  go_enter Try.func45, Try.ntmps45
  go_wp2
  go_ret2
  exact ⟨rfl, rfl⟩
theorem sem_new (w : World) (B : Nat) (n : Int) (hB : B ≤ w.heap.size) : SemSt (w.alloc (.cells #[.int .i64 n, .slice none 0 0] 122)) B w.heap.size (.slice none 0 0) n [] :=
  ⟨Blk.new _ _ _, Row.nil _ _ _ _, hB, by simp [Value.ownBlock]⟩
def semRet (k : Int) (w : World) (e : Ending) (w' : World) : Prop := e = .returned (.int .i64 k) ∧ w = w'
theorem down_bad (g : Nat) (x : Int) (w : World) (h : x < 1 ∨ 16 < x) : Calls Try.prog 46 #[.pointer (some ⟨g, 0, none⟩), .int .i64 x] w (semRet 1 w) := by
  rcases h with h | h
  · have d : decide (x < 1) = true := by simpa using h
    go_enter Try.func46, Try.ntmps46
    go_wp2
    go_ret
    exact ⟨rfl, rfl⟩
  · have d : decide (x < 1) = false := by simp; omega
    have d' : decide (16 < x) = true := by simpa using h
    go_enter Try.func46, Try.ntmps46
    go_wp2
    go_ret
    exact ⟨rfl, rfl⟩
set_option maxRecDepth 100000 in
theorem down_has (g : Nat) (vr : Value) (n : Int) (row : List Int) (x : Int) (w : World) (B : Nat) (h : SemSt w B g vr n row) (hx : 1 ≤ x ∧ x ≤ 16) (hm : row.contains x = true) (hl : row.length ≤ 5864062014634) :
    Calls Try.prog 46 #[.pointer (some ⟨g, 0, none⟩), .int .i64 x] w (semRet 8 w) := by
  have d : decide (x < 1) = false := by simp; omega
  have d' : decide (16 < x) = false := by simp; omega
  obtain ⟨A, c, hv, hc1, hc2⟩ := h.row.shape
  subst hv
  have hc := h.blk.cell
  go_enter Try.func46, Try.ntmps46
  go_wp2_with (go_at_call 27; refine (contains_is A row.length c x row _ _ (RD.of_row h.row) (by omega) hm).mono ?_; rintro e w' ⟨rfl, rfl⟩)
  go_ret
  exact ⟨rfl, rfl⟩
theorem sem_set {w : World} {B g : Nat} {vr : Value} {n m : Int} {row : List Int} (h : SemSt w B g vr n row) : SemGo w B g vr m row (w.setCell ⟨g, 0, none⟩ (.int .i64 m)) := by
  refine ⟨vr, ⟨?_, h.row.setCell (p := ⟨g, 0, none⟩) h.n1 _, h.low, h.n1⟩, (Fr.refl _ w).setCell (p := ⟨g, 0, none⟩) (fun _ => .inl rfl) _, fun k hk => .inl hk⟩
  have := h.blk.set 0 (.int .i64 m)
  simpa using this
def semGives (k : Int) (w : World) (B g : Nat) (vr : Value) (n : Int) (row : List Int) (e : Ending) (w' : World) : Prop := e = .returned (.int .i64 k) ∧ SemGo w B g vr n row w'
set_option maxRecDepth 100000 in
theorem down_pos (g : Nat) (vr : Value) (n : Int) (row : List Int) (x : Int) (w : World) (B : Nat) (h : SemSt w B g vr n row) (hx : 1 ≤ x ∧ x ≤ 16) (hm : row.contains x = false) (hl : row.length ≤ 5864062014634) (hn : 0 < n ∧ n ≤ 1000) :
    Calls Try.prog 46 #[.pointer (some ⟨g, 0, none⟩), .int .i64 x] w (semGives 0 w B g vr (n - 1) row) := by
  have d : decide (x < 1) = false := by simp; omega
  have d' : decide (16 < x) = false := by simp; omega
  have d2 : decide (0 < n) = true := by simp; omega
  obtain ⟨A, c, hv, hc1, hc2⟩ := h.row.shape
  subst hv
  have hc := h.blk.cell
  have hf := h.blk.free
  have hlt := h.blk.lt
  go_enter Try.func46, Try.ntmps46
  go_wp2_with (go_at_call 27; refine (contains_is A row.length c x row _ _ (RD.of_row h.row) (by omega) hm).mono ?_; rintro e w' ⟨rfl, rfl⟩)
  go_ret
  exact ⟨rfl, sem_set h⟩
theorem sem_append {w w1 : World} {B g c c1 : Nat} {A A1 : Option Addr} {n : Int} {row : List Int} {x : Int} {X : Obj} (h : SemSt w B g (.slice A row.length c) n row)
    (hr : Row w1 B 3 1 (.slice A1 (row.length + 1) c1) (row.length + 1) (row.map (Value.int .i64) ++ [.int .i64 x])) (hg : (w.alloc X).grownBy w1 (Value.slice A row.length c).ownBlock)
    (ho : (Value.slice A1 (row.length + 1) c1).ownBlock = (Value.slice A row.length c).ownBlock ∨ (Value.slice A1 (row.length + 1) c1).ownBlock = some (w.heap.size + 1)) :
    SemGo w B g (.slice A row.length c) n (row ++ [x]) (w1.setCell ⟨g, 1, none⟩ (.slice A1 (row.length + 1) c1)) := by
  have hlt := h.blk.lt
  have hne := own_ne ho h.n1 (by omega : g < w.heap.size + 1)
  have hg0 : w.grownBy w1 (Value.slice A row.length c).ownBlock := by
    refine ⟨hg.os, hg.tape, hg.output, by have := hg.size; simp at this; omega, fun k hk hn => (hg.block k (by simp; omega) hn).trans (Below.heap_alloc w X k hk)⟩
  refine ⟨.slice A1 (row.length + 1) c1, ⟨?_, ?_, h.low, hne⟩, ?_, fun k hk => ?_⟩
  · have := (h.blk.grown hg0 (Ne.symm h.n1)).set 1 (.slice A1 (row.length + 1) c1)
    simpa using this
  · have := hr.setCell (p := ⟨g, 1, none⟩) hne (.slice A1 (row.length + 1) c1)
    simpa using this
  · exact ((Fr.refl _ w).grown hg0 (fun k e _ => .inr e)).setCell (p := ⟨g, 1, none⟩) (fun _ => .inl rfl) _
  · rcases hk with h1 | h1
    · exact .inl (.inl h1)
    · rcases own_cases ho h1 with h2 | rfl
      · exact .inl (.inr h2)
      · exact .inr (by omega)
set_option maxRecDepth 100000 in
theorem down_wait (g : Nat) (vr : Value) (n : Int) (row : List Int) (x : Int) (w : World) (B : Nat) (h : SemSt w B g vr n row) (hB : B ≤ w.heap.size) (hx : 1 ≤ x ∧ x ≤ 16) (hm : row.contains x = false) (hl : row.length ≤ 5864062014634) (hn : ¬ 0 < n) :
    Calls Try.prog 46 #[.pointer (some ⟨g, 0, none⟩), .int .i64 x] w (semGives 9 w B g vr n (row ++ [x])) := by
  have d : decide (x < 1) = false := by simp; omega
  have d' : decide (16 < x) = false := by simp; omega
  have d2 : decide (0 < n) = false := by simp; omega
  obtain ⟨i0, hi, hz0, hz1, hz2⟩ := info_parts Try.infoInt
  obtain ⟨A, c, hv, hc1, hc2⟩ := h.row.shape
  subst hv
  have hc := h.blk.cell
  have hlt := h.blk.lt
  go_enter Try.func46, Try.ntmps46
  go_wp2_with (first | (go_at_call 27; refine (contains_is A row.length c x row _ _ (RD.of_row h.row) (by omega) hm).mono ?_; rintro e w' ⟨rfl, rfl⟩) | (at_builtin; refine wpList_append_row _ rfl (.tmp 33) (.tmp 35) 30 rfl B 3 i0 (.int .i64 0) 1 8 Try.underlying30 hi hz0 hz1 hz2 rfl (by decide) (.slice A row.length c) row.length (row.map (Value.int .i64)) rfl (h.row.alloc _) (w.heap.size + 1) (some ⟨w.heap.size, 0, none⟩) 1 1 [.int .i64 x] rfl (reads_one w (.int .i64 x) 3) (by simp [Value.oneCell']) (by unfold maxLen; omega) (by omega) (by simp; omega) ?_))
  intro A1 c1 w1 hr1 hg1 ho1
  have hb1 := (h.blk.alloc (.cells #[.int .i64 x] 3)).grown hg1 (Ne.symm h.n1)
  have hc' := hb1.cell
  have hf' := hb1.free
  have hlt' := hb1.lt
  go_wp2
  go_ret
  exact ⟨rfl, sem_append h hr1 hg1 (ho1.imp id (fun e => e.trans (by simp)))⟩
def semTwo (a b : Int) (w : World) (e : Ending) (w' : World) : Prop := e = .returned (.tuple #[.int .i64 a, .int .i64 b]) ∧ w = w'
set_option maxRecDepth 100000 in
theorem up_full (g : Nat) (vr : Value) (w : World) (B : Nat) (h : SemSt w B g vr 1000 []) : Calls Try.prog 48 #[.pointer (some ⟨g, 0, none⟩)] w (semTwo 0 6 w) := by
  obtain ⟨A, c, hv, hc1, hc2⟩ := h.row.shape
  subst hv
  have hc := h.blk.cell
  go_enter Try.func48, Try.ntmps48
  go_wp2
  go_ret2
  exact ⟨rfl, rfl⟩
def semGives2 (a b : Int) (w : World) (B g : Nat) (vr : Value) (n : Int) (row : List Int) (e : Ending) (w' : World) : Prop := e = .returned (.tuple #[.int .i64 a, .int .i64 b]) ∧ SemGo w B g vr n row w'
set_option maxRecDepth 100000 in
theorem up_more (g : Nat) (vr : Value) (n : Int) (w : World) (B : Nat) (h : SemSt w B g vr n []) (hn : 0 ≤ n ∧ n < 1000) : Calls Try.prog 48 #[.pointer (some ⟨g, 0, none⟩)] w (semGives2 0 0 w B g vr (n + 1) []) := by
  obtain ⟨A, c, hv, hc1, hc2⟩ := h.row.shape
  subst hv
  have hc := h.blk.cell
  have hf := h.blk.free
  have hlt := h.blk.lt
  have d : (n == 1000) = false := by simp; omega
  go_enter Try.func48, Try.ntmps48
  go_wp2
  go_ret2
  exact ⟨rfl, sem_set h⟩
theorem sem_clone {w w1 : World} {B g : Nat} {vr v : Value} {n : Int} {t : Int} {row : List Int} (h : SemSt w B g vr n (t :: row)) (hr : Row w1 w.heap.size 3 1 v row.length (row.map (Value.int .i64))) (hb : Below w.heap.size w w1) :
    SemGo w B g vr n row (w1.setCell ⟨g, 1, none⟩ v) := by
  have hlt := h.blk.lt
  have hne : v.ownBlock ≠ some g := fun e => by have := (hr.lt g e).1; omega
  refine ⟨v, ⟨?_, (hr.setCell (p := ⟨g, 1, none⟩) hne v).base_le (by have := h.low; omega), h.low, hne⟩, ((Fr.of_grow hb).mono (fun _ _ h => h.elim)).setCell (p := ⟨g, 1, none⟩) (fun _ => .inl rfl) _, fun k hk => ?_⟩
  · have := (h.blk.fr (Fr.of_grow hb) (fun h => h)).set 1 v
    simpa using this
  · rcases hk with h1 | h1
    · exact .inl (.inl h1)
    · exact .inr (hr.lt k h1).1
def CountPost (w : World) (n : Int) (row : List Int) (e : Ending) (w' : World) : Prop := ∃ v, e = .returned (.tuple #[.int .i64 n, v]) ∧ Row w' w.heap.size 3 1 v row.length (row.map (Value.int .i64)) ∧ Below w.heap.size w w'
theorem cut_addr {w : World} {base : Nat} {e : TypeId} {n b o c : Nat} {xs : List Value} (h : Row w base e 1 (.slice (some ⟨b, o, none⟩) (n + 1) c) (n + 1) xs) :
    Row w base e 1 (.slice (if c = 1 then some ⟨b, o, none⟩ else some ⟨b, o + 1, none⟩) n (c - 1)) n (xs.drop 1) := by
  have := h.cut (k := 1) (by omega)
  simpa [add_plain] using this
set_option maxRecDepth 100000 in
theorem up_row (g : Nat) (vr : Value) (n : Int) (t : Int) (row : List Int) (w : World) (B : Nat) (h : SemSt w B g vr n (t :: row)) (hB : B ≤ w.heap.size) (hl : row.length ≤ 5864062014634) :
    Calls Try.prog 48 #[.pointer (some ⟨g, 0, none⟩)] w (semGives2 t 0 w B g vr n row) := by
  obtain ⟨A, c, hv, hc1, hc2⟩ := h.row.shape
  subst hv
  obtain ⟨b, o, u, e, hb, hx, hcell⟩ := Reads.at_ (k := 0) h.row.reads (by simp)
  have hu : u = .int .i64 t := by simpa using hx.symm
  subst hu
  subst e
  clear hx
  rw [Nat.add_zero] at hcell
  have hcut := cut_addr (n := row.length) h.row
  simp only [List.map_cons, List.drop_succ_cons, List.drop_zero] at hcut
  have hc := h.blk.cell
  have hlt := h.blk.lt
  have hlen : (t :: row).length = row.length + 1 := rfl
  rw [hlen] at hc hc1
  go_enter Try.func48, Try.ntmps48
  generalize hA : (if c = 1 then some (⟨b, o, none⟩ : Addr) else some ⟨b, o + 1, none⟩) = A' at hcut
  go_wp2_with fail
  refine (clone_any A' row.length (c - 1) row _ _ (RD.of_row hcut) (Nat.le_refl _) (by omega)).mono ?_
  rintro e w1 ⟨v, rfl, hr1, hb1⟩
  obtain ⟨A1, c1, rfl, hc3, hc4⟩ := hr1.shape
  have hblk := h.blk.fr (Fr.of_grow hb1) (fun h => h)
  have hc' := hblk.cell
  have hf' := hblk.free
  have hlt' := hblk.lt
  rw [hlen] at hc'
  go_wp2
  go_ret2
  exact ⟨rfl, sem_clone h hr1 hb1⟩
theorem count_any (g : Nat) (vr : Value) (n : Int) (row : List Int) (w : World) (B : Nat) (h : SemSt w B g vr n row) (hl : row.length ≤ 5864062014634) :
    Calls Try.prog 49 #[.pointer (some ⟨g, 0, none⟩)] w (CountPost w n row) := by
  obtain ⟨A, c, hv, hc1, hc2⟩ := h.row.shape
  subst hv
  have hc := h.blk.cell
  have hlt := h.blk.lt
  go_enter Try.func49, Try.ntmps49
  go_wp2
  go_region_with (go_at_call 72; refine (clone_any A row.length c row _ _ (RD.of_row h.row.drew) (Nat.le_refl _) (by omega)).mono ?_; rintro e w1 ⟨v, rfl, hr1, hb1⟩; have hblk := h.blk.drew.fr (Fr.of_grow hb1) (fun h => h); have hc' := hblk.cell)
  all_goals
    go_wp2
    go_ret2
    exact ⟨_, rfl, hr1, (Below.refl _ w).drew.trans hb1⟩
end Go.Proofs.Ytjcbnanajelpjaa
