/- The maker of steps in memory; contracts of step, slices.Index, least. -/
import Derived.Test.YtjeclmkdojnflaaPlA
import Derived.Test.YtjeclmkdojnflaaOpen
import Derived.Test.YtjeclmkdojnflaaRecs
import Derived.Test.YtjeclmkdojnflaaNear
import Derived.Test.YtjeclmkdojnflaaFlow
import Derived.Test.YtjeclmkdojnflaaProg
import Derived.Test.YtjeclmkdojnflaaTSet
import Derived.WalkSpells
import Derived.WalkLawsBesides
import Derived.Outline
import Derived.LoopTactic
import Derived.IntWalk
import Derived.Deep.RegionLaw
import Derived.Deep.Cut
import Derived.Deep.Light
import Derived.Laws.EntriesVeiled
namespace Go.Proofs.Ytjeclmkdojnflaa
open Go.RowKit
set_option maxHeartbeats 400000
set_option linter.unusedVariables false
set_option linter.unusedSimpArgs false
theorem infoS : (Try.prog.info? 32).map (fun i => (i.zero, i.size, i.bytes)) = some (some (.agg #[.int .i64 0, .int .i64 0, .int .i64 0, .int .i64 0, .int .i64 0, .string ByteArray.empty, .string ByteArray.empty, .slice none 0 0]), 8, 96) := by kernel_rfl
/-- The maker's cells. -/
def mkC (p : Nat) (who : Int) (S : Fds) : Array Value := #[.pointer (some ⟨p, 0, none⟩), .int .i64 who, .bool (S 0), .bool (S 1), .bool (S 2), .bool (S 3), .bool (S 4), .bool (S 5), .bool (S 6), .bool (S 7)]
theorem mkC_at (p : Nat) (who : Int) (S : Fds) {k : Nat} (h : k < 8) : (mkC p who S)[2 + k]? = some (.bool (S k)) := by
  rcases (by omega : k = 0 ∨ k = 1 ∨ k = 2 ∨ k = 3 ∨ k = 4 ∨ k = 5 ∨ k = 6 ∨ k = 7) with rfl | rfl | rfl | rfl | rfl | rfl | rfl | rfl <;> rfl
theorem mkC_set (p : Nat) (who : Int) (S : Fds) {k : Nat} (h : k < 8) (v : Bool) : (mkC p who S).setIfInBounds (2 + k) (.bool v) = mkC p who (up S k v) := by
  rcases (by omega : k = 0 ∨ k = 1 ∨ k = 2 ∨ k = 3 ∨ k = 4 ∨ k = 5 ∨ k = 6 ∨ k = 7) with rfl | rfl | rfl | rfl | rfl | rfl | rfl | rfl <;> simp [mkC, up]
/-- A maker and its steps. -/
structure Mk (W : World) (B g p : Nat) (v : Value) (who : Int) (q : Pst) : Prop where
  mb : Blk W g (mkC p who q.1) 57
  sb : Blk W p #[v] 24
  row : Row W B 32 8 v q.2.length (q.2.flatMap Stp.cells)
  lg : B ≤ g
  lp : B ≤ p
def MF (g p : Nat) (v : Value) (k : Nat) : Prop := k = g ∨ k = p ∨ v.ownBlock = some k
def MGo (w : World) (B g p : Nat) (v : Value) (who : Int) (q : Pst) (w' : World) : Prop :=
  ∃ v', Mk w' B g p v' who q ∧ Fr (MF g p v) w w' ∧ ∀ k, v'.ownBlock = some k → v.ownBlock = some k ∨ w.heap.size ≤ k
theorem blk_ne {w : World} {g g' : Nat} {cs cs' : Array Value} {t t' : TypeId} (h : Blk w g cs t) (h' : Blk w g' cs' t') (ht : t ≠ t') : g ≠ g' := by
  rintro rfl
  unfold Blk at h h'
  rw [h] at h'
  simp at h'
  exact ht h'.2
theorem row_blk {w : World} {base e size n g : Nat} {v : Value} {xs : List Value} {cs : Array Value} {t : TypeId} (h : Row w base e size v n xs) (hb : Blk w g cs t) (ht : e ≠ t) : v.ownBlock ≠ some g := by
  obtain ⟨_, h2⟩ := h
  rcases h2 with ⟨rfl, _⟩ | ⟨g', o, cap, cur, rfl, _, hblk, _⟩
  · intro e; cases e
  · intro e
    injection e with e
    subst e
    unfold Blk at hb
    rw [hblk] at hb
    simp at hb
    exact ht hb.2
namespace Mk
variable {W W' W1 : World} {B g p : Nat} {v v' : Value} {who : Int} {q : Pst} {S : Fds} {l l' : List Stp}
theorem low (h : Mk W B g p v who q) : B ≤ W.heap.size := by have := h.sb.lt; have := h.lp; omega
theorem lowF (h : Mk W B g p v who q) : ∀ k, MF g p v k → B ≤ k := fun k hk => by
  rcases hk with rfl | rfl | hk
  · exact h.lg
  · exact h.lp
  · exact (h.row.lt k hk).1
theorem fr {F : Nat → Prop} (h : Mk W B g p v who q) (hf : Fr F W W') (h1 : ¬ F g) (h2 : ¬ F p) (h3 : ∀ k, v.ownBlock = some k → ¬ F k) : Mk W' B g p v who q :=
  ⟨h.mb.fr hf h1, h.sb.fr hf h2, h.row.fr hf h3, h.lg, h.lp⟩
theorem grow (h : Mk W B g p v who q) (hb : Below W.heap.size W W') : Mk W' B g p v who q := h.fr (Fr.of_grow hb) id id (fun _ _ => id)
theorem refl (h : Mk W B g p v who q) : MGo W B g p v who q W := ⟨v, h, Fr.refl _ _, fun k hk => .inl hk⟩
/-- One descriptor is set. -/
theorem put (h : Mk W B g p v who q) {k : Nat} (hk : k < 8) (x : Bool) : MGo W B g p v who (up q.1 k x, q.2) (W.setCell ⟨g, 2 + k, none⟩ (.bool x)) := by
  have hf : Fr (fun i => i = g) W (W.setCell ⟨g, 2 + k, none⟩ (.bool x)) := (Fr.refl (fun i => i = g) W).setCell (p := ⟨g, 2 + k, none⟩) (fun _ => rfl) _
  refine ⟨v, ⟨?_, h.sb.fr hf (blk_ne h.sb h.mb (by decide)), h.row.fr hf (fun j hj e => row_blk h.row h.mb (by decide) (e ▸ hj)), h.lg, h.lp⟩, hf.mono fun j _ e => .inl e, fun j hj => .inl hj⟩
  have := h.mb.set (2 + k) (.bool x)
  rwa [mkC_set p who q.1 hk] at this
/-- A step has been appended. -/
theorem app (h : Mk W B g p v who q) {c' : Nat} {A' : Option Addr} {x : Stp} (hb : Below W.heap.size W W') (hg : W'.grownBy W1 v.ownBlock) (hr : Row W1 B 32 8 (.slice A' (q.2.length + 1) c') (q.2.length + 1) (q.2.flatMap Stp.cells ++ x.cells))
    (ho : (Value.slice A' (q.2.length + 1) c').ownBlock = v.ownBlock ∨ ∃ k, (Value.slice A' (q.2.length + 1) c').ownBlock = some k ∧ W'.heap.size ≤ k) : MGo W B g p v who (q.1, q.2 ++ [x]) (W1.setCell ⟨p, 0, none⟩ (.slice A' (q.2.length + 1) c')) := by
  have hf0 : Fr (fun k => v.ownBlock = some k) W W1 := ((Fr.of_grow hb).mono (fun _ _ e => e.elim)).grown hg (fun k e _ => e)
  have hb1 := h.mb.fr hf0 (row_blk h.row h.mb (by decide))
  have hs1 := h.sb.fr hf0 (row_blk h.row h.sb (by decide))
  have hf1 : Fr (fun k => k = p) W1 (W1.setCell ⟨p, 0, none⟩ (.slice A' (q.2.length + 1) c')) := (Fr.refl (fun k => k = p) W1).setCell (p := ⟨p, 0, none⟩) (fun _ => rfl) _
  have e : (q.2 ++ [x]).length = q.2.length + 1 := by simp
  refine ⟨.slice A' (q.2.length + 1) c', ⟨hb1.fr hf1 (blk_ne hb1 hs1 (by decide)), ?_, ?_, h.lg, h.lp⟩, ?_, fun k hk => ?_⟩
  · have := hs1.set 0 (.slice A' (q.2.length + 1) c')
    simpa using this
  · dsimp only
    rw [e, List.flatMap_append]
    have hr2 := hr.fr hf1 (fun k hk e => row_blk hr hs1 (by decide) (e ▸ hk))
    simpa using hr2
  · exact (hf0.mono (fun k _ e => .inr (.inr e))).trans hf1 (fun k _ e => .inr (.inl e))
  · rcases ho with e | ⟨j, e, hj⟩
    · exact .inl (e.symm.trans hk)
    · rw [e] at hk; injection hk with hk; have := hb.size; exact .inr (by omega)
end Mk
theorem MGo.trans {w w1 w2 : World} {B g p : Nat} {v : Value} {who : Int} {q q2 : Pst} (h1 : MGo w B g p v who q w1) (h2 : ∀ v1, Mk w1 B g p v1 who q → MGo w1 B g p v1 who q2 w2) : MGo w B g p v who q2 w2 := by
  obtain ⟨v1, m1, f1, o1⟩ := h1
  obtain ⟨v2, m2, f2, o2⟩ := h2 v1 m1
  refine ⟨v2, m2, f1.trans f2 (fun k hk hF => ?_), fun k hk => ?_⟩
  · rcases hF with e | e | e
    · exact .inl e
    · exact .inr (.inl e)
    · rcases o1 k e with e | e
      · exact .inr (.inr e)
      · omega
  · rcases o2 k hk with e | e
    · exact o1 k e
    · have := f1.size; exact .inr (by omega)
end Go.Proofs.Ytjeclmkdojnflaa
