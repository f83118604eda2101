/- Locks that are slept for: the two News; the reference's Go and Free. -/
import Derived.Test.YtenhcpobncmedaaSeM
namespace Go.Proofs.Ytenhcpobncmedaa
open Go.RowKit Go.Maps
set_option maxHeartbeats 400000
set_option linter.unusedVariables false
set_option linter.unusedSimpArgs false
def lk0 : LkS := ⟨fun _ => none, fun _ => 0, fun _ => []⟩
theorem lk0_ok : LkOk lk0 := lk_start lk0 rfl rfl rfl
def cells0 (bp : Nat) (tl : List Value) : Array Value := arrC (hdO bp fun _ => 0) 16 (fun _ => .slice none 0 0) tl
theorem arr0 (w : World) (B bp : Nat) (t : TypeId) (tl : List Value) (hB : B ≤ w.heap.size) : Arr (w.alloc (.cells (cells0 bp tl) t)) B w.heap.size t (hdO bp fun _ => 0) 16 tl (fun _ => .slice none 0 0) (fun _ => []) where
  blk := Blk.new w _ t
  row := fun i hi => Row.nil _ _ _ _
  ne := fun i hi e => by simp [Value.ownBlock] at e
  dis := fun i j k hi hj hne e => by simp [Value.ownBlock] at e
  low := hB
def NewP (w : World) (B : Nat) (e : Ending) (w' : World) : Prop := ∃ g bp bf vs, e = .returned (.pointer (some ⟨g, 0, none⟩)) ∧ LkP w' B g bp 0 bf 0 vs lk0 ∧ Below w.heap.size w w' ∧ ∀ k, LkPF g bp bf vs k → w.heap.size ≤ k
def NewM (w : World) (B : Nat) (e : Ending) (w' : World) : Prop := ∃ g bp vs, e = .returned (.pointer (some ⟨g, 0, none⟩)) ∧ LkM w' B g bp 0 91 [] vs lk0 ∧ Below w.heap.size w w' ∧ ∀ k, LkMF g bp vs k → w.heap.size ≤ k
theorem newP_is {w : World} {B : Nat} (hB : B ≤ w.heap.size) : NewP w B (.returned (.pointer (some ⟨w.heap.size + 2, 0, none⟩))) (((w.alloc (.map #[] 0)).alloc (.map #[] 0)).alloc (.cells (cells0 w.heap.size [.map (some (w.heap.size + 1))]) 159)) := by
  have hI1 : IntMap Try.prog ((w.alloc (.map #[] 0)).alloc (.map #[] 0)) 3 3 w.heap.size 0 (fun _ => none) := (IntMap.made Try.prog w 3 3).alloc _
  have hI2 : IntMap Try.prog ((w.alloc (.map #[] 0)).alloc (.map #[] 0)) 3 3 (w.heap.size + 1) 0 (fun _ => none) := by
    have := IntMap.made Try.prog (w.alloc (.map #[] 0)) 3 3
    simpa using this
  have hA := arr0 ((w.alloc (.map #[] 0)).alloc (.map #[] 0)) B w.heap.size 159 [.map (some (w.heap.size + 1))] (by simp; omega)
  have hs : ((w.alloc (.map #[] 0)).alloc (.map #[] 0)).heap.size = w.heap.size + 2 := by simp
  rw [hs] at hA
  have hf : forM lk0.F = fun _ => none := by
    funext z
    exact forM_none (wfor_none.2 (fun k _ h => by cases h))
  refine ⟨w.heap.size + 2, w.heap.size, w.heap.size + 1, fun _ => .slice none 0 0, rfl, ⟨⟨hA, hI1.alloc _, by omega, fun i _ e => by simp [Value.ownBlock] at e, hB⟩, by rw [hf]; exact hI2.alloc _, by omega, by omega, fun i _ e => by simp [Value.ownBlock] at e, by omega⟩, ?_, fun k hk => ?_⟩
  · exact (((Below.refl _ _).alloc (Nat.le_refl _) _).alloc (by simp) _).alloc (by simp; omega) _
  · rcases hk with ((rfl | ⟨i, _, e⟩) | rfl) | rfl
    · omega
    · simp [Value.ownBlock] at e
    · omega
    · omega
theorem newM_is {w : World} {B : Nat} (hB : B ≤ w.heap.size) : NewM w B (.returned (.pointer (some ⟨w.heap.size + 1, 0, none⟩))) ((w.alloc (.map #[] 0)).alloc (.cells (cells0 w.heap.size []) 91)) := by
  have hA := arr0 (w.alloc (.map #[] 0)) B w.heap.size 91 [] (by simp; omega)
  have hs : (w.alloc (.map #[] 0)).heap.size = w.heap.size + 1 := by simp
  rw [hs] at hA
  refine ⟨w.heap.size + 1, w.heap.size, fun _ => .slice none 0 0, rfl, ⟨hA, (IntMap.made Try.prog w 3 3).alloc _, by omega, fun i _ e => by simp [Value.ownBlock] at e, hB⟩, ((Below.refl _ _).alloc (Nat.le_refl _) _).alloc (by simp) _, fun k hk => ?_⟩
  rcases hk with (rfl | ⟨i, _, e⟩) | rfl
  · omega
  · simp [Value.ownBlock] at e
  · omega
set_option maxRecDepth 100000 in
theorem new51 (w : World) (B : Nat) (hB : B ≤ w.heap.size) : Calls Try.prog 51 #[] w (NewP w B) := by
  have hmm := @run_makeMap Try.prog
  have H := Lib.hid (newP_is (w := w) hB)
  go_enter Try.func51, Try.ntmps51
  go_wp2
  go_ret
  exact H.out
set_option maxRecDepth 100000 in
theorem new54 (w : World) (B : Nat) (hB : B ≤ w.heap.size) : Calls Try.prog 54 #[] w (NewM w B) := by
  have hmm := @run_makeMap Try.prog
  have H := Lib.hid (newM_is (w := w) hB)
  go_enter Try.func54, Try.ntmps54
  go_wp2
  go_ret
  exact H.out
end Go.Proofs.Ytenhcpobncmedaa
