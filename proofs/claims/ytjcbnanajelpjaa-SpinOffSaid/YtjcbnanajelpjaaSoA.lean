/- Interrupts that are off (spin.Off): what is held of one, and contracts of its methods. -/
import Derived.Test.YtjcbnanajelpjaaSlA
import Derived.Deep.RegionLaw
namespace Go.Proofs.Ytjcbnanajelpjaa
open Go.RowKit
set_option maxHeartbeats 400000
set_option linter.unusedVariables false
set_option linter.unusedSimpArgs false
/-- An Off at block g: its stack vs, what came vc. -/
structure OffSt (w : World) (B g : Nat) (vs vc : Value) (st : List Bool) (on : Bool) (cm : List Int) : Prop where
  blk : Blk w g #[.int .i64 0, vs, .bool on, vc, .int .u32 0] 115
  row : Row w B 4 1 vs st.length (st.map Value.bool)
  came : Row w B 3 1 vc cm.length (cm.map (Value.int .i64))
  low : B ≤ g
  n1 : vs.ownBlock ≠ some g
  n2 : vc.ownBlock ≠ some g
  n3 : ∀ k, vs.ownBlock = some k → vc.ownBlock ≠ some k
def OffF (g : Nat) (vs vc : Value) : Nat → Prop := fun k => k = g ∨ vs.ownBlock = some k ∨ vc.ownBlock = some k
/-- Behind a call: the object as it is now; nothing else has changed. -/
def OffGo (w : World) (B g : Nat) (vs vc : Value) (st : List Bool) (on : Bool) (cm : List Int) (w' : World) : Prop :=
  ∃ vs' vc', OffSt w' B g vs' vc' st on cm ∧ Fr (OffF g vs vc) w w' ∧ ∀ k, OffF g vs' vc' k → OffF g vs vc k ∨ w.heap.size ≤ k
theorem OffSt.keep {w w' : World} {B g : Nat} {vs vc : Value} {st : List Bool} {on : Bool} {cm : List Int} (h : OffSt w B g vs vc st on cm) {S : Nat → Prop} (hf : Fr S w w') (hn : ∀ k, OffF g vs vc k → ¬ S k) : OffSt w' B g vs vc st on cm :=
  ⟨h.blk.fr hf (hn g (.inl rfl)), h.row.fr hf (fun k hk => hn k (.inr (.inl hk))), h.came.fr hf (fun k hk => hn k (.inr (.inr hk))), h.low, h.n1, h.n2, h.n3⟩
theorem newOff_any (w : World) : Calls Try.prog 21 #[] w fun e w' => e = .returned (.pointer (some ⟨w.heap.size, 0, none⟩)) ∧ w' = w.alloc (.cells #[.int .i64 0, .slice none 0 0, .bool true, .slice none 0 0, .int .u32 0] 115) := by
  go_enter Try.func21, Try.ntmps21
  go_wp2
  go_ret
  exact ⟨rfl, rfl⟩
theorem Try.infoBool : (Try.prog.info? 4).map (fun i => (i.zero, i.size, i.bytes)) = some (some (.bool false), 1, 1) := by kernel_rfl
theorem off_saved {w w1 : World} {B g c c1 : Nat} {A A1 : Option Addr} {vc : Value} {st : List Bool} {on : Bool} {cm : List Int} {X : Obj} (h : OffSt w B g (.slice A st.length c) vc st on cm)
    (hr : Row w1 B 4 1 (.slice A1 (st.length + 1) c1) (st.length + 1) (st.map Value.bool ++ [.bool on])) (hg : (w.drew.alloc X).grownBy w1 (Value.slice A st.length c).ownBlock)
    (ho : (Value.slice A1 (st.length + 1) c1).ownBlock = (Value.slice A st.length c).ownBlock ∨ (Value.slice A1 (st.length + 1) c1).ownBlock = some (w.heap.size + 1)) :
    OffGo w B g (.slice A st.length c) vc (st ++ [on]) false cm ((w1.setCell ⟨g, 1, none⟩ (.slice A1 (st.length + 1) c1)).setCell ⟨g, 2, none⟩ (.bool false)) := by
  have hlt := h.blk.lt
  have hne := own_ne ho h.n1 (by omega : g < w.heap.size + 1)
  have hg0 : w.grownBy w1 (Value.slice A st.length c).ownBlock := by
    refine ⟨hg.os, hg.tape, hg.output, by have := hg.size; simp at this; omega, fun k hk hn => (hg.block k (by simp; omega) hn).trans (Below.heap_alloc w.drew X k hk)⟩
  refine ⟨.slice A1 (st.length + 1) c1, vc, ⟨?_, ?_, ?_, h.low, hne, h.n2, fun k hk e => ?_⟩, ?_, fun k hk => ?_⟩
  · have := ((h.blk.grown hg0 (Ne.symm h.n1)).set 1 (.slice A1 (st.length + 1) c1)).set 2 (.bool false)
    simpa using this
  · have := (hr.setCell (p := ⟨g, 1, none⟩) hne (.slice A1 (st.length + 1) c1)).setCell (p := ⟨g, 2, none⟩) hne (.bool false)
    simpa using this
  · exact ((h.came.grown hg0 (fun k hk e => h.n3 k e hk)).setCell (p := ⟨g, 1, none⟩) h.n2 _).setCell (p := ⟨g, 2, none⟩) h.n2 _
  · rcases own_cases ho hk with h1 | rfl
    · exact h.n3 k h1 e
    · have := (h.came.lt _ e).2; omega
  · exact (((Fr.refl _ w).grown hg0 (fun k e _ => .inr (.inl e))).setCell (p := ⟨g, 1, none⟩) (fun _ => .inl rfl) _).setCell (p := ⟨g, 2, none⟩) (fun _ => .inl rfl) _
  · rcases hk with h1 | h1 | h1
    · exact .inl (.inl h1)
    · rcases own_cases ho h1 with h2 | rfl
      · exact .inl (.inr (.inl h2))
      · exact .inr (by omega)
    · exact .inl (.inr (.inr h1))
def SaveGo (w : World) (B g : Nat) (vs vc : Value) (st : List Bool) (on : Bool) (cm : List Int) (e : Ending) (w' : World) : Prop := e = .returned (.int .i64 0) ∧ OffGo w B g vs vc (st ++ [on]) false cm w'
set_option maxHeartbeats 1000000 in
set_option maxRecDepth 100000 in
theorem save_full (g : Nat) (vs vc : Value) (st : List Bool) (on : Bool) (cm : List Int) (w : World) (B : Nat) (h : OffSt w B g vs vc st on cm) (hl : st.length = 16) :
    Calls Try.prog 22 #[.pointer (some ⟨g, 0, none⟩)] w fun e w' => e = .returned (.int .i64 6) ∧ w = w' := by
  obtain ⟨A, c, rfl, hc1, hc2⟩ := h.row.shape
  have hc := h.blk.cell
  rw [hl] at hc
  go_enter Try.func22, Try.ntmps22
  go_wp2
  go_ret
  exact ⟨rfl, rfl⟩
set_option maxHeartbeats 1000000 in
set_option maxRecDepth 100000 in
theorem save_any (g : Nat) (vs vc : Value) (st : List Bool) (on : Bool) (cm : List Int) (w : World) (B : Nat) (h : OffSt w B g vs vc st on cm) (hl : st.length < 16) (hB : B ≤ w.heap.size) :
    Calls Try.prog 22 #[.pointer (some ⟨g, 0, none⟩)] w (SaveGo w B g vs vc st on cm) := by
  obtain ⟨i0, hi, hz0, hz1, hz2⟩ := info_parts Try.infoBool
  obtain ⟨A, c, hv, hc1, hc2⟩ := h.row.shape
  subst hv
  have hc := h.blk.cell
  have hlt := h.blk.lt
  have d : ((st.length : Int) == 16) = false := by simp; omega
  go_enter Try.func22, Try.ntmps22
  go_wp2
  go_region_law (refine step_append_row rfl (.tmp 13) (.tmp 18) 113 rfl B 4 i0 (.bool false) 1 1 Try.underlying113 hi hz0 hz1 hz2 rfl (by decide) (.slice A st.length c) st.length (st.map Value.bool) (by simp [Act.eval, Act.put]) (h.row.drew.alloc _) (w.heap.size + 1) (some ⟨w.heap.size, 0, none⟩) 1 1 [.bool on] (by simp [Act.eval, Act.put]) (reads_one w.drew (.bool on) 4) (by simp [Value.oneCell']) (by unfold maxLen; omega) (by omega) (by simp; omega) ?_; intro A1 c1 w1 hr1 hg1 ho1; have hb1 := (h.blk.drew.alloc (.cells #[.bool on] 4)).grown hg1 (Ne.symm h.n1); have hc' := hb1.cell; have hf' := hb1.free; have hlt' := hb1.lt)
  all_goals
    go_wp2
    go_ret
    exact ⟨rfl, off_saved h hr1 hg1 (ho1.imp id (fun e => e.trans (by simp)))⟩
end Go.Proofs.Ytjcbnanajelpjaa
