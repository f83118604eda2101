/- New pipes, and both kinds of pipes side by side. -/
import Derived.Test.YthlhjaacjhlkhaaPpK
import Derived.Test.YthlhjaacjhlkhaaPpL
namespace Go.Proofs.Ythlhjaacjhlkhaa
open Go.RowKit
set_option maxHeartbeats 400000
set_option linter.unusedVariables false
set_option linter.unusedSimpArgs false
/-- No slot is taken. -/
def F0 : Fs := fun _ => none
theorem allR_F0 : allR F0 = [] := by
  unfold allR recs
  rw [List.filterMap_eq_nil_iff]
  intro j _
  rfl
def RetNw (w : World) (e : Ending) (w' : World) : Prop := ∃ g, e = .returned (.pointer (some ⟨g, 0, none⟩)) ∧ Re w' w.heap.size g F0 (fun _ => 0) (fun _ => .slice none 0 0) ∧ Below w.heap.size w w'
theorem new_post (w : World) : RetNw w (.returned (.pointer (some ⟨w.heap.size, 0, none⟩))) (w.alloc (.cells (cellsA F0 (fun _ => 0)) 113)) :=
  ⟨w.heap.size, rfl, ⟨Blk.new w _ 113, Nat.le_refl _, fun _ _ _ h => (by cases h), fun _ _ _ _ _ _ h => (by cases h)⟩, (Below.refl _ w).alloc (Nat.le_refl _) _⟩
theorem cellsA_F0 : cellsA F0 (fun _ => 0) = #[.pointer none, .pointer none, .pointer none, .pointer none, .pointer none, .pointer none, .pointer none, .pointer none, .pointer none, .pointer none, .pointer none, .pointer none, .pointer none, .pointer none, .pointer none, .pointer none] := by rfl
set_option maxRecDepth 100000 in
theorem new_any (w : World) : Calls Try.prog 24 #[] w (RetNw w) := by
  have HP := Lib.hid (new_post w)
  rw [cellsA_F0] at HP
  go_enter Try.func24, Try.ntmps24
  go_wp2
  go_ret
  exact HP.out
theorem madeE_func {F : Fs} {x y x' y' : Int} {F1 F2 : Fs} (h : madeE F x y F1) (h' : madeE F x' y' F2) : x = x' ∧ y = y' ∧ F1 = F2 := by
  rcases h with ⟨a1, rfl, rfl, rfl⟩ | ⟨i, a1, rfl, rfl, rfl⟩ <;> rcases h' with ⟨b1, rfl, rfl, rfl⟩ | ⟨j, b1, rfl, rfl, rfl⟩
  · exact ⟨rfl, rfl, rfl⟩
  · exact absurd b1.2.1 (a1 j b1.1)
  · exact absurd a1.2.1 (b1 i a1.1)
  · have : i = j := by
      rcases Nat.lt_trichotomy i j with h | h | h
      · exact absurd a1.2.1 (b1.2.2 i h)
      · exact h
      · exact absurd b1.2.1 (a1.2.2 j h)
    subst this
    exact ⟨rfl, rfl, rfl⟩
theorem made_F0 {x y : Int} {F' : Fs} (h : madeE F0 x y F') : x = 1 ∧ y = 0 := by
  have : madeE F0 1 0 (put F0 0 (some ⟨1, 1, []⟩)) := .inr ⟨0, ⟨by omega, rfl, fun j h => by omega⟩, rfl, rfl, rfl⟩
  obtain ⟨a, b, _⟩ := madeE_func h this
  exact ⟨a, b⟩
/-- Both kinds of pipes, side by side. -/
structure Bo (W w : World) (g q0 : Nat) (F : Fs) (b : Nat → Nat) (v : Nat → Value) (vL : Value) : Prop where
  re : Re w W.heap.size g F b v
  qe : Qe w W.heap.size q0 vL F
  dis : ∀ k, RFt g F b v k → ¬ QFt q0 vL k
  bel : Below W.heap.size W w
def BoE (W w : World) (g q0 : Nat) (F : Fs) : Prop := ∃ b v vL, Bo W w g q0 F b v vL
namespace Bo
variable {W w w' : World} {g q0 : Nat} {F F' : Fs} {b : Nat → Nat} {v : Nat → Value} {vL : Value}
theorem grow (h : Bo W w g q0 F b v vL) (hb : Below w.heap.size w w') : Bo W w' g q0 F b v vL :=
  ⟨h.re.grow hb, h.qe.grow hb, h.dis, h.bel.trans (hb.mono h.bel.size)⟩
/-- The real pipes go on. -/
theorem real (h : Bo W w g q0 F b v vL) (hg : RGo w W.heap.size g F b v F' w') : (∃ b' v', Re w' W.heap.size g F' b' v' ∧ ∀ k, RFt g F' b' v' k → ¬ QFt q0 vL k) ∧ Qe w' W.heap.size q0 vL F ∧ Below W.heap.size W w' ∧ w.heap.size ≤ w'.heap.size := by
  obtain ⟨b', v', m, f, o⟩ := hg
  refine ⟨⟨b', v', m, fun k hk hq => ?_⟩, h.qe.fr f (fun k hq hr => h.dis k hr hq), h.bel.trans (f.below h.bel.size h.re.lowF), f.size⟩
  rcases o k hk with e | e
  · exact h.dis k e hq
  · have := h.qe.ltF k hq; omega
/-- The reference goes on. -/
theorem side {w1 : World} {F1 : Fs} {vL1 : Value} (hr : Re w1 W.heap.size g F1 b v) (hd : ∀ k, RFt g F1 b v k → ¬ QFt q0 vL1 k) (hW : Below W.heap.size W w1) (hq1 : Qe w1 W.heap.size q0 vL1 F) (hq : QGo w1 W.heap.size q0 vL1 F1 w') : BoE W w' g q0 F1 := by
  obtain ⟨v', m, f, o⟩ := hq
  refine ⟨b, v, v', hr.fr f hd, m, fun k hk hq => ?_, hW.trans (f.below hW.size hq1.lowF)⟩
  rcases hq with rfl | e
  · exact hd k hk (.inl rfl)
  · rcases o k e with e | e
    · exact hd k hk (.inr e)
    · have := hr.ltF k hk; omega
/-- Both go on, the real pipes first. -/
theorem both {w1 : World} (h : Bo W w g q0 F b v vL) (hg : RGo w W.heap.size g F b v F' w1) (hq : QGo w1 W.heap.size q0 vL F' w') : BoE W w' g q0 F' := by
  obtain ⟨⟨b', v', m, d⟩, q, hW, _⟩ := h.real hg
  exact side m d hW q hq
end Bo
/-- The start. -/
theorem Bo.start {W w : World} {g q0 : Nat} {b : Nat → Nat} {v : Nat → Value} (hr : Re w W.heap.size g F0 b v) (hW : Below W.heap.size W w) (hq : Blk w q0 #[.slice none 0 0] 45) (hl : W.heap.size ≤ q0) : Bo W w g q0 F0 b v (.slice none 0 0) := by
  refine ⟨hr, ⟨hq, ?_, hl, fun _ _ _ h => (by cases h)⟩, fun k hk hq' => ?_, hW⟩
  · rw [allR_F0]; exact Row.nil _ _ _ _
  · have hk : k = g := by
      rcases hk with e | ⟨i, p, _, h, _⟩
      · exact e
      · cases h
    subst hk
    rcases hq' with e | e
    · exact pp_blk_ne hr.blk hq (by decide) e
    · simp [Value.ownBlock] at e
end Go.Proofs.Ythlhjaacjhlkhaa
