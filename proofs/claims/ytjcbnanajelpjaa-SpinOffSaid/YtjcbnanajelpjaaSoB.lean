/- Contracts of Back, Come and On of spin.Off. -/
import Derived.Test.YtjcbnanajelpjaaSoA
namespace Go.Proofs.Ytjcbnanajelpjaa
open Go.RowKit
set_option maxHeartbeats 400000
set_option linter.unusedVariables false
set_option linter.unusedSimpArgs false
theorem back_none (g : Nat) (vs vc : Value) (on : Bool) (cm : List Int) (w : World) (B : Nat) (h : OffSt w B g vs vc [] on cm) :
    Calls Try.prog 25 #[.pointer (some ⟨g, 0, none⟩)] w fun e w' => e = .returned (.tuple #[.slice none 0 0, .int .i64 8]) ∧ w = w' := by
  obtain ⟨A, c, hv, hc1, hc2⟩ := h.row.shape
  subst hv
  have hc := h.blk.cell
  go_enter Try.func25, Try.ntmps25
  go_wp2
  go_ret2
  exact ⟨rfl, rfl⟩
theorem off_back {w : World} {B g c : Nat} {A : Option Addr} {vc : Value} {st : List Bool} {b on : Bool} {cm : List Int} (h : OffSt w B g (.slice A (st ++ [b]).length c) vc (st ++ [b]) on cm) :
    OffSt ((w.setCell ⟨g, 2, none⟩ (.bool b)).setCell ⟨g, 1, none⟩ (.slice A st.length c)) B g (.slice A st.length c) vc st b cm ∧ Fr (OffF g (.slice A (st ++ [b]).length c) vc) w ((w.setCell ⟨g, 2, none⟩ (.bool b)).setCell ⟨g, 1, none⟩ (.slice A st.length c)) := by
  have ho : (Value.slice A st.length c).ownBlock = (Value.slice A (st ++ [b]).length c).ownBlock := by cases A <;> rfl
  refine ⟨⟨?_, ?_, ?_, h.low, by rw [ho]; exact h.n1, h.n2, fun k hk => h.n3 k (ho ▸ hk)⟩, ?_⟩
  · have := (h.blk.set 2 (.bool b)).set 1 (.slice A st.length c)
    simpa using this
  · have := ((h.row.take (k := st.length) (by simp)).setCell (p := ⟨g, 2, none⟩) (by rw [ho]; exact h.n1) (.bool b)).setCell (p := ⟨g, 1, none⟩) (by rw [ho]; exact h.n1) (.slice A st.length c)
    simpa using this
  · exact (h.came.setCell (p := ⟨g, 2, none⟩) h.n2 _).setCell (p := ⟨g, 1, none⟩) h.n2 _
  · exact ((Fr.refl _ w).setCell (p := ⟨g, 2, none⟩) (fun _ => .inl rfl) _).setCell (p := ⟨g, 1, none⟩) (fun _ => .inl rfl) _
theorem off_drop {w : World} {B g : Nat} {vs vc : Value} {st : List Bool} {on : Bool} {cm : List Int} (h : OffSt w B g vs vc st on cm) : OffSt (w.setCell ⟨g, 3, none⟩ (.slice none 0 0)) B g vs (.slice none 0 0) st on [] :=
  ⟨by have := h.blk.set 3 (.slice none 0 0)
      simpa using this, h.row.setCell (p := ⟨g, 3, none⟩) h.n1 _, Row.nil _ _ _ _, h.low, h.n1, by simp [Value.ownBlock], fun k _ => by simp [Value.ownBlock]⟩
theorem OffF.cut {A : Option Addr} {n m c c' g : Nat} {vc : Value} {k : Nat} (h : OffF g (.slice A n c) vc k) : OffF g (.slice A m c') vc k := by
  rcases h with h | h | h
  · exact .inl h
  · exact .inr (.inl (by rw [← h]; cases A <;> rfl))
  · exact .inr (.inr h)
theorem OffF.less {vs vc : Value} {g : Nat} {k : Nat} (h : OffF g vs (.slice none 0 0) k) : OffF g vs vc k := by
  rcases h with h | h | h
  · exact .inl h
  · exact .inr (.inl h)
  · simp [Value.ownBlock] at h
def BackGo (w : World) (B g : Nat) (vs vc : Value) (st : List Bool) (b : Bool) (cm : List Int) (e : Ending) (w' : World) : Prop :=
  e = .returned (.tuple #[if b then vc else .slice none 0 0, .int .i64 0]) ∧ Row w' B 3 1 vc cm.length (cm.map (Value.int .i64)) ∧ OffGo w B g vs vc st b (if b then [] else cm) w'
set_option maxHeartbeats 1000000 in
set_option maxRecDepth 100000 in
theorem back_any (g : Nat) (vs vc : Value) (st : List Bool) (b on : Bool) (cm : List Int) (w : World) (B : Nat) (h : OffSt w B g vs vc (st ++ [b]) on cm) (hl : st.length < 16) :
    Calls Try.prog 25 #[.pointer (some ⟨g, 0, none⟩)] w (BackGo w B g vs vc st b cm) := by
  obtain ⟨A, c, hv, hc1, hc2⟩ := h.row.shape
  subst hv
  have hc := h.blk.cell
  have hf := h.blk.free
  have hlt := h.blk.lt
  have hl1 : (st ++ [b]).length = st.length + 1 := by simp
  have hlen : ((st.length + 1 : Nat) : Int) - 1 = st.length := by omega
  obtain ⟨g', o', u, e, hb, hx, hcell⟩ := Reads.at_ (k := st.length) h.row.reads (by rw [hl1]; omega)
  have hu : u = .bool b := by simpa using hx.symm
  subst hu
  subst e
  have hne : ¬ g' = g := fun e => h.n1 (by simp [Value.ownBlock, e])
  have hn0 : ((st ++ [b]).length : Int) - 1 = st.length := by rw [hl1]; omega
  have hsl : (st.length : Int) < (st ++ [b]).length := by rw [hl1]; omega
  have hsl' : st.length < (st ++ [b]).length := by rw [hl1]; omega
  have H1 := Lib.hid hl1
  have H := Lib.hid (off_back h)
  clear hl1 hx
  generalize (st ++ [b]).length = n at *
  cases b with
  | false =>
    go_enter Try.func25, Try.ntmps25
    go_wp2
    go_ret2
    exact ⟨rfl, H.out.1.came, _, _, H.out.1, H.out.2, fun k hk => .inl hk.cut⟩
  | true =>
    go_enter Try.func25, Try.ntmps25
    go_wp2
    go_ret2
    exact ⟨rfl, H.out.1.came.setCell (p := ⟨g, 3, none⟩) H.out.1.n2 _, _, _, off_drop H.out.1, H.out.2.setCell (p := ⟨g, 3, none⟩) (fun _ => .inl rfl) _, fun k hk => .inl hk.less.cut⟩
theorem come_bad (g : Nat) (x : Int) (w : World) (h : x < 0 ∨ 31 < x) :
    Calls Try.prog 23 #[.pointer (some ⟨g, 0, none⟩), .int .i64 x] w fun e w' => e = .returned (.tuple #[.bool false, .int .i64 1]) ∧ w = w' := by
  rcases h with h | h
  · have d : decide (x < 0) = true := by simpa using h
    go_enter Try.func23, Try.ntmps23
    go_wp2
    go_ret2
    exact ⟨rfl, rfl⟩
  · have d : decide (x < 0) = false := by simp; omega
    have d' : decide (31 < x) = true := by simpa using h
    go_enter Try.func23, Try.ntmps23
    go_wp2
    go_ret2
    exact ⟨rfl, rfl⟩
theorem come_on (g : Nat) (vs vc : Value) (st : List Bool) (cm : List Int) (x : Int) (w : World) (B : Nat) (h : OffSt w B g vs vc st true cm) (hx : 0 ≤ x ∧ x ≤ 31) :
    Calls Try.prog 23 #[.pointer (some ⟨g, 0, none⟩), .int .i64 x] w fun e w' => e = .returned (.tuple #[.bool true, .int .i64 0]) ∧ w = w' := by
  have d : decide (x < 0) = false := by simp; omega
  have d' : decide (31 < x) = false := by simp; omega
  have hc := h.blk.cell
  go_enter Try.func23, Try.ntmps23
  go_wp2
  go_ret2
  exact ⟨rfl, rfl⟩
set_option maxHeartbeats 1000000 in
set_option maxRecDepth 100000 in
theorem come_has (g : Nat) (vs vc : Value) (st : List Bool) (cm : List Int) (x : Int) (w : World) (B : Nat) (h : OffSt w B g vs vc st false cm) (hx : 0 ≤ x ∧ x ≤ 31) (hm : cm.contains x = true) (hl : cm.length ≤ 5864062014634) :
    Calls Try.prog 23 #[.pointer (some ⟨g, 0, none⟩), .int .i64 x] w fun e w' => e = .returned (.tuple #[.bool false, .int .i64 0]) ∧ w = w' := by
  have d : decide (x < 0) = false := by simp; omega
  have d' : decide (31 < x) = false := by simp; omega
  obtain ⟨A, c, hv, hc1, hc2⟩ := h.came.shape
  subst hv
  have hc := h.blk.cell
  go_enter Try.func23, Try.ntmps23
  go_wp2_with (go_at_call 27; refine (contains_is A cm.length c x cm _ _ (RD.of_row h.came) (by omega) hm).mono ?_; rintro e w' ⟨rfl, rfl⟩)
  go_ret2
  exact ⟨rfl, rfl⟩
theorem off_come {w w1 : World} {B g c c1 : Nat} {A A1 : Option Addr} {vs : Value} {st : List Bool} {on : Bool} {cm : List Int} {x : Int} {X : Obj} (h : OffSt w B g vs (.slice A cm.length c) st on cm)
    (hr : Row w1 B 3 1 (.slice A1 (cm.length + 1) c1) (cm.length + 1) (cm.map (Value.int .i64) ++ [.int .i64 x])) (hg : (w.alloc X).grownBy w1 (Value.slice A cm.length c).ownBlock)
    (ho : (Value.slice A1 (cm.length + 1) c1).ownBlock = (Value.slice A cm.length c).ownBlock ∨ (Value.slice A1 (cm.length + 1) c1).ownBlock = some (w.heap.size + 1)) :
    OffGo w B g vs (.slice A cm.length c) st on (cm ++ [x]) (w1.setCell ⟨g, 3, none⟩ (.slice A1 (cm.length + 1) c1)) := by
  have hlt := h.blk.lt
  have hne := own_ne ho h.n2 (by omega : g < w.heap.size + 1)
  have hg0 : w.grownBy w1 (Value.slice A cm.length c).ownBlock := by
    refine ⟨hg.os, hg.tape, hg.output, by have := hg.size; simp at this; omega, fun k hk hn => (hg.block k (by simp; omega) hn).trans (Below.heap_alloc w X k hk)⟩
  refine ⟨vs, .slice A1 (cm.length + 1) c1, ⟨?_, ?_, ?_, h.low, h.n1, hne, fun k hk e => ?_⟩, ?_, fun k hk => ?_⟩
  · have := (h.blk.grown hg0 (Ne.symm h.n2)).set 3 (.slice A1 (cm.length + 1) c1)
    simpa using this
  · exact (h.row.grown hg0 (fun k hk e => h.n3 k hk e)).setCell (p := ⟨g, 3, none⟩) h.n1 _
  · have := hr.setCell (p := ⟨g, 3, none⟩) hne (.slice A1 (cm.length + 1) c1)
    simpa using this
  · rcases own_cases ho e with h1 | rfl
    · exact h.n3 k hk h1
    · have := (h.row.lt _ hk).2; omega
  · exact ((Fr.refl _ w).grown hg0 (fun k e _ => .inr (.inr e))).setCell (p := ⟨g, 3, none⟩) (fun _ => .inl rfl) _
  · rcases hk with h1 | h1 | h1
    · exact .inl (.inl h1)
    · exact .inl (.inr (.inl h1))
    · rcases own_cases ho h1 with h2 | rfl
      · exact .inl (.inr (.inr h2))
      · exact .inr (by omega)
def ComeGo (w : World) (B g : Nat) (vs vc : Value) (st : List Bool) (cm : List Int) (x : Int) (e : Ending) (w' : World) : Prop := e = .returned (.tuple #[.bool false, .int .i64 0]) ∧ OffGo w B g vs vc st false (cm ++ [x]) w'
set_option maxHeartbeats 1000000 in
set_option maxRecDepth 100000 in
theorem come_new (g : Nat) (vs vc : Value) (st : List Bool) (cm : List Int) (x : Int) (w : World) (B : Nat) (h : OffSt w B g vs vc st false cm) (hB : B ≤ w.heap.size) (hx : 0 ≤ x ∧ x ≤ 31) (hm : cm.contains x = false) (hl : cm.length ≤ 5864062014634) :
    Calls Try.prog 23 #[.pointer (some ⟨g, 0, none⟩), .int .i64 x] w (ComeGo w B g vs vc st cm x) := by
  have d : decide (x < 0) = false := by simp; omega
  have d' : decide (31 < x) = false := by simp; omega
  obtain ⟨i0, hi, hz0, hz1, hz2⟩ := info_parts Try.infoInt
  obtain ⟨A, c, hv, hc1, hc2⟩ := h.came.shape
  subst hv
  have hc := h.blk.cell
  have hlt := h.blk.lt
  go_enter Try.func23, Try.ntmps23
  go_wp2_with (first | (go_at_call 27; refine (contains_is A cm.length c x cm _ _ (RD.of_row h.came) (by omega) hm).mono ?_; rintro e w' ⟨rfl, rfl⟩) | (at_builtin; refine wpList_append_row _ rfl (.tmp 27) (.tmp 29) 30 rfl B 3 i0 (.int .i64 0) 1 8 Try.underlying30 hi hz0 hz1 hz2 rfl (by decide) (.slice A cm.length c) cm.length (cm.map (Value.int .i64)) rfl (h.came.alloc _) (w.heap.size + 1) (some ⟨w.heap.size, 0, none⟩) 1 1 [.int .i64 x] rfl (reads_one w (.int .i64 x) 3) (by simp [Value.oneCell']) (by unfold maxLen; omega) (by omega) (by simp; omega) ?_))
  intro A1 c1 w1 hr1 hg1 ho1
  have hb1 := (h.blk.alloc (.cells #[.int .i64 x] 3)).grown hg1 (Ne.symm h.n2)
  have hc' := hb1.cell
  have hf' := hb1.free
  have hlt' := hb1.lt
  go_wp2
  go_ret2
  exact ⟨rfl, off_come h hr1 hg1 (ho1.imp id (fun e => e.trans (by simp)))⟩
set_option maxRecDepth 100000 in
theorem on_any (g : Nat) (vs vc : Value) (st : List Bool) (on : Bool) (cm : List Int) (w : World) (B : Nat) (h : OffSt w B g vs vc st on cm) :
    Calls Try.prog 28 #[.pointer (some ⟨g, 0, none⟩)] w fun e w' => e = .returned (.tuple #[.bool on, .int .i64 st.length]) ∧ ∃ n, w' = w.drewN n := by
  obtain ⟨A, c, hv, hc1, hc2⟩ := h.row.shape
  subst hv
  have hc := h.blk.cell
  go_enter Try.func28, Try.ntmps28
  go_wp2
  go_quiet (fail)
  go_wp2
  go_ret2
  exact ⟨rfl, _, rfl⟩
end Go.Proofs.Ytjcbnanajelpjaa
