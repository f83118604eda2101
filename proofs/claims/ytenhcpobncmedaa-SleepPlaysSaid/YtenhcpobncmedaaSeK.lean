/- Locks that are slept for: a row from which a task goes; contract of Free. -/
import Derived.Test.YtenhcpobncmedaaSeJ
import Derived.Deep.RegionWith
namespace Go.Proofs.Ytenhcpobncmedaa
open Go.RowKit Go.Maps
set_option maxHeartbeats 400000
set_option linter.unusedVariables false
set_option linter.unusedSimpArgs false
theorem forM_rem (F : Nat → List Int) (t : Int) : forM (fun i => (F i).filter (· != t)) = fun z => if z = t then none else forM F z := by
  funext z
  by_cases hz : z = t
  · subst hz
    rw [if_pos rfl]
    refine forM_none (wfor_none.2 (fun k hk h => ?_))
    simp at h
  · rw [if_neg hz]
    have : wfor (fun i => (F i).filter (· != t)) z = wfor F z := by
      unfold wfor
      congr 1
      funext i
      rw [Bool.eq_iff_iff]
      simp [hz]
    unfold forM; rw [this]
section
variable {w : World} {B g bp np bf nf : Nat} {vs : Nat → Value} {s : LkS}
theorem LkP.congr (h : LkP w B g bp np bf nf vs s) {s' : LkS} (h1 : s.P = s'.P) (h2 : s.O = s'.O) (h3 : ∀ i, i < 16 → s.F i = s'.F i) : LkP w B g bp np bf nf vs s' :=
  ⟨h.m.congr h1 h2 h3, by rw [← forM_congr h3]; exact h.for_, h.fne, h.fnp, h.fnr, h.flow⟩
theorem LkPGo.congr {w' : World} {s s' : LkS} (h : LkPGo w B g bp bf vs np nf s w') (h1 : s.P = s'.P) (h2 : s.O = s'.O) (h3 : ∀ i, i < 16 → s.F i = s'.F i) : LkPGo w B g bp bf vs np nf s' w' := by
  obtain ⟨vs', a1, a2, a3⟩ := h
  exact ⟨vs', a1.congr h1 h2 h3, a2, a3⟩
theorem LkPGo.step {w1 w2 : World} {s1 s2 : LkS} {np1 nf1 np2 nf2 : Nat} (h1 : LkPGo w B g bp bf vs np1 nf1 s1 w1) (h2 : ∀ vs1, LkP w1 B g bp np1 bf nf1 vs1 s1 → LkPGo w1 B g bp bf vs1 np2 nf2 s2 w2) : LkPGo w B g bp bf vs np2 nf2 s2 w2 := by
  obtain ⟨vs1, a1, a2, a3⟩ := h1
  obtain ⟨vs2, b1, b2, b3⟩ := h2 vs1 a1
  refine ⟨vs2, b1, a2.trans b2 (fun k hk hk' => (a3 k hk').resolve_right (by omega)), fun k hk => ?_⟩
  rcases b3 k hk with h3 | h3
  · exact a3 k h3
  · exact .inr (Nat.le_trans a2.size h3)
theorem LkPGo.at_ {w' : World} {s : LkS} (h : LkPGo w B g bp bf vs np nf s w') : (∀ j, w'.frozen? ⟨g, j, none⟩ = false) ∧ g < w'.heap.size ∧ LkQ w' g bp np bf nf s := by
  obtain ⟨vs', a1, a2, a3⟩ := h
  exact ⟨a1.m.arr.blk.free, a1.m.arr.blk.lt, a1.rd⟩
/-- Row k has been put anew: the deletion in the map of who waits, and what it leaves. -/
theorem LkP.rem (h : LkP w B g bp np bf nf vs s) {w1 : World} {k : Nat} {v : Value} {xs' : List Int} {t : Int} (hk : k < 16) (hf' : Fr (fun j => (vs k).ownBlock = some j) w w1) (hr' : Row w1 B 3 1 v xs'.length (xs'.map (Value.int .i64)))
    (ho' : ∀ j, v.ownBlock = some j → (vs k).ownBlock = some j ∨ w.heap.size ≤ j) (htw : (Lit.int .i64 t).wf = true) (hfor : forM (updV s.F k xs') = fun z => if z = t then none else forM s.F z)
    {W : World} (hW : Fr Nil (w1.setCell ⟨g, 17 + k, none⟩ v) W) (hWs : W.heap.size = w1.heap.size) :
    W.cell? ⟨g, 33, none⟩ = some (.map (some bf)) ∧ ∃ w2, (∀ ty, (Builtin.delete_ #[78, 3] ty #[.map (some bf), .int .i64 t]).run Try.prog W = .ok (.tuple #[]) w2) ∧ LkPGo w B g bp bf vs np nf ⟨s.P, s.O, updV s.F k xs'⟩ w2 := by
  have hm := h.m.put hk hf' hr' ho'
  have hI1 : IntMap Try.prog (w1.setCell ⟨g, 17 + k, none⟩ v) 3 3 bf nf (forM s.F) :=
    (h.for_.fr hf' (h.fnr k hk)).fr ((Fr.refl (fun j => j = g) w1).setCell (p := ⟨g, 17 + k, none⟩) (fun _ => rfl) _) h.fne
  obtain ⟨w2, hup, hI2, hg2⟩ := (hI1.fr hW (fun h => h)).delete Try.underlying3 Try.underlying78 htw
  refine ⟨?_, w2, hup, h.put hk hf' hr' ho' (by rw [hWs]; have := hW.grow; simpa using this) hWs hg2 (by rw [hfor]; exact hI2)⟩
  refine (hW.cell (p := ⟨g, 33, none⟩) hm.arr.blk.lt (fun h => h)).trans ((hm.arr.blk.cell 33).trans ?_)
  have := arrC_tl (hdO bp s.O) (N := 16) (i := 0) (updV vs k v) [.map (some bf)]
  rw [hdO_len] at this
  exact this
end
end Go.Proofs.Ytenhcpobncmedaa
