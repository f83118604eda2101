/- What a fault-free object's parts are like; what Encode and ObjBytes give. -/
import Derived.Test.YtgmpcdonmlhohaaObL
import Derived.Deep.Light
namespace Go.Proofs.Ytgmpcdonmlhohaa
open Go.RowKit
set_option maxHeartbeats 400000
set_option linter.unusedVariables false
set_option linter.unusedSimpArgs false
def NmFit (n : Nm) : Prop := n.s.size ≤ 255 ∧ (n.wh = 1 ∨ n.wh = 2) ∧ 0 ≤ n.ad ∧ n.ad ≤ 512
def NdFit (n : Nd) : Prop := n.s.size ≤ 255 ∧ 1 ≤ n.k ∧ n.k ≤ 3 ∧ 0 ≤ n.ad ∧ n.ad ≤ 512
theorem nameB_len (s : ByteArray) (h : nameB (nums s) = true) : s.size ≤ 255 := by
  have e := nums_len s
  unfold nameB at h
  simp at h
  omega
theorem nmB_fit {lc ld : Nat} {n : Nm} (hc : lc ≤ 128) (hd : ld ≤ 256) (h : nmB lc ld n = true) : NmFit n := by
  unfold nmB at h
  rw [Bool.and_eq_true, decide_eq_true_eq] at h
  obtain ⟨h1, h2, h3, _⟩ := h
  unfold sizeI at h3
  refine ⟨nameB_len _ h1, ?_⟩
  split at h3
  · rename_i e; exact ⟨.inl e, h2, by omega⟩
  · split at h3
    · rename_i e; exact ⟨.inr e, h2, by omega⟩
    · omega
theorem ndB_fit {lc : Nat} {last : Int} {n : Nd} (hc : lc ≤ 128) (h : ndB lc last n = true) : NdFit n := by
  unfold ndB at h
  rw [Bool.and_eq_true, decide_eq_true_eq] at h
  obtain ⟨h1, h2, h3, h4, h5, _⟩ := h
  exact ⟨nameB_len _ h1, h2, h3, h4, by omega⟩
theorem nms_zero {lc ld : Nat} (hc : lc ≤ 128) (hd : ld ≤ 256) : ∀ (ns : List Nm) (seen : List (List UInt8)), nmsErr lc ld seen ns = 0 → ∀ n ∈ ns, NmFit n
  | [], _, _, n, hn => by cases hn
  | m :: ns, seen, h, n, hn => by
    unfold nmsErr at h
    split at h
    · rename_i e
      split at h
      · cases h
      · rcases List.mem_cons.1 hn with rfl | hn
        · exact nmB_fit hc hd e
        · exact nms_zero hc hd ns _ h n hn
    · cases h
theorem nds_zero {lc : Nat} (hc : lc ≤ 128) : ∀ (ns : List Nd) (last : Int), ndsErr lc last ns = 0 → ∀ n ∈ ns, NdFit n
  | [], _, _, n, hn => by cases hn
  | m :: ns, last, h, n, hn => by
    unfold ndsErr at h
    split at h
    · rename_i e
      rcases List.mem_cons.1 hn with rfl | hn
      · exact ndB_fit hc e
      · exact nds_zero hc ns _ h n hn
    · cases h
/-- An object without faults. -/
structure ObFit (o : Ob) : Prop where
  n0 : o.n0 ≤ 128
  n1 : o.n1 ≤ 256
  n2 : o.n2 ≤ 24
  n3 : o.n3 ≤ 40
  ns : ∀ n ∈ o.ns, NmFit n
  ds : ∀ n ∈ o.ds, NdFit n
theorem obj_zero (o : Ob) (h : objErr o = 0) : ObFit o := by
  unfold objErr at h
  split at h
  · cases h
  · rename_i hb
    split at h
    · rename_i e
      exact ⟨by omega, by omega, by omega, by omega, nms_zero (by omega) (by omega) _ _ e, nds_zero (by omega) _ _ h⟩
    · rename_i e; exact absurd h e
/-- What Encode and ObjBytes give. -/
def BytesPost (w : World) (o : Ob) (ws bs : List Int) (e : Ending) (w' : World) : Prop :=
  ∃ v n, e = .returned (.tuple #[v, .int .i64 (objErr o)]) ∧ OwnS w' w.heap.size 5 1 n v ((if objErr o = 0 then objI ws bs o.n0 o.n1 o.n2 o.n3 o.ns o.ds else []).map (Value.int .u8)) ∧ Below w.heap.size w w'
end Go.Proofs.Ytgmpcdonmlhohaa
