/- Contracts of Out and Wake of wait.Queue. -/
import Derived.Test.YtenhcpobncmedaaWaE
namespace Go.Proofs.Ytenhcpobncmedaa
open Go.RowKit
set_option maxHeartbeats 400000
set_option linter.unusedVariables false
set_option linter.unusedSimpArgs false
theorem wa_row_row {w : World} {base base' e e' size size' n n' : Nat} {v v' : Value} {xs xs' : List Value} (h : Row w base e size v n xs) (h' : Row w base' e' size' v' n' xs') (ht : e ≠ e') : ∀ k, v.ownBlock = some k → v'.ownBlock ≠ some k := by
  intro k hk hk'
  rcases h.2 with ⟨rfl, _⟩ | ⟨g, o, cap, cur, rfl, _, hg, _⟩
  · simp [Value.ownBlock] at hk
  · rcases h'.2 with ⟨rfl, _⟩ | ⟨g', o', cap', cur', rfl, _, hg', _⟩
    · simp [Value.ownBlock] at hk'
    · simp [Value.ownBlock] at hk hk'
      subst hk
      subst hk'
      rw [hg] at hg'
      injection hg' with hg'
      injection hg' with _ hg'
      exact ht hg'
theorem wa_del {w w1 w2 : World} {B g b : Nat} {A : Option Addr} {l c : Nat} {ws ys : List Wt} {f : Int → Option Int} {cnt : Nat} {nn : Int} (h : WaSt w B g b (.slice A l c) ws f cnt nn) (hb : Below w.heap.size w w1)
    (hr : Row w2 B 155 2 (.slice A ys.length c) ys.length (ys.flatMap Wt.cells)) (hf : Fr (fun k => (Value.slice A 0 0).ownBlock = some k) w1 w2) :
    WaGo w B g b (.slice A l c) ys f cnt nn (w2.setCell ⟨g, 0, none⟩ (.slice A ys.length c)) ∧ w2.cell? ⟨g, 0, none⟩ = some (.slice A l c) ∧ w2.frozen? ⟨g, 0, none⟩ = false ∧ g < w2.heap.size := by
  have h1 := h.grow hb
  have hf2 : Fr (fun k => (Value.slice A l c).ownBlock = some k) w1 w2 := hf.mono (fun k _ e => by rw [pr_own (n' := 0) (c' := 0)]; exact e)
  have hblk : Blk w2 g #[.slice A l c, .map (some b), .int .i64 nn] 153 := h1.blk.fr hf2 (fun e => h1.ne e)
  have hmap : IntMap Try.prog w2 3 3 b cnt f := h1.map.fr hf2 (fun e => h1.map.row_ne h1.row e)
  refine ⟨⟨_, ⟨?_, hr.setCell (p := ⟨g, 0, none⟩) (wa_row_blk hr hblk (by decide)) _, hmap.fr ((Fr.refl (fun k => k = g) w2).setCell (p := ⟨g, 0, none⟩) (fun _ => rfl) _) (fun e => hmap.blk_ne hblk e.symm), h.low, h.lowb⟩, ?_, fun k hk => ?_⟩, hblk.cell 0, hblk.free 0, hblk.lt⟩
  · have := hblk.set 0 (.slice A ys.length c)
    simpa using this
  · exact (((Fr.of_grow hb).mono (fun _ _ h => h.elim)).trans (hf2.mono (S' := WaF g b (.slice A l c)) (fun k _ e => .inr (.inr e))) (fun _ _ h => h)).setCell (p := ⟨g, 0, none⟩) (fun _ => .inl rfl) _
  · rcases hk with hk | hk | hk
    · exact .inl (.inl hk)
    · exact .inl (.inr (.inl hk))
    · exact .inl (.inr (.inr (by rw [pr_own (n' := ys.length) (c' := c)]; exact hk)))
set_option maxRecDepth 100000 in
theorem out_none (g b : Nat) (vl : Value) (ws : List Wt) (f : Int → Option Int) (cnt : Nat) (nn t : Int) (w : World) (B : Nat) (h : WaSt w B g b vl ws f cnt nn) (hc : (wts ws).contains t = false) :
    Calls Try.prog 46 #[.pointer (some ⟨g, 0, none⟩), .int .i64 t] w fun e w' => e = .returned (.int .i64 4) ∧ Below w.heap.size w w' := by
  have hba : Below w.heap.size w (w.alloc (.cells #[.int .i64 t] 3)) := (Below.refl _ _).alloc (Nat.le_refl _) _
  have HX := Lib.hid (has111 g b vl ws f cnt nn t (w.alloc (.cells #[.int .i64 t] 3)) B (h.grow hba))
  rw [hc] at HX
  have HB := Lib.hid hba
  clear h hc hba
  go_enter Try.func46, Try.ntmps46
  go_wp2_with fail
  refine HX.out.mono ?_
  rintro e w1 ⟨rfl, hb⟩
  go_wp2
  go_ret
  exact ⟨rfl, HB.out.trans (hb.mono HB.out.size)⟩
def WOutPost (w : World) (B g b : Nat) (vl : Value) (ws : List Wt) (f : Int → Option Int) (cnt : Nat) (nn : Int) (e : Ending) (w' : World) : Prop := e = .returned (.int .i64 0) ∧ WaGo w B g b vl ws f cnt nn w'
set_option maxRecDepth 100000 in
theorem out_ok (g b : Nat) (vl : Value) (ws : List Wt) (f : Int → Option Int) (cnt : Nat) (nn t : Int) (w : World) (B : Nat) (h : WaSt w B g b vl ws f cnt nn) (hc : (wts ws).contains t = true) :
    Calls Try.prog 46 #[.pointer (some ⟨g, 0, none⟩), .int .i64 t] w (WOutPost w B g b vl (wout ws t) f cnt nn) := by
  have hba : Below w.heap.size w (w.alloc (.cells #[.int .i64 t] 3)) := (Below.refl _ _).alloc (Nat.le_refl _) _
  have HX := Lib.hid (has111 g b vl ws f cnt nn t (w.alloc (.cells #[.int .i64 t] 3)) B (h.grow hba))
  rw [hc] at HX
  obtain ⟨A, c, hv, _, hc1, hc2⟩ := h.rs
  subst hv
  have H := Lib.hid h
  have HB := Lib.hid hba
  have hmf : ∀ fn first cap w, (Instr.makeFunc fn first cap).run Try.prog w = .ok (.func fn first cap) w := fun _ _ _ _ => rfl
  clear h hc hba
  generalize hll : ws.length = l at *
  have HLL := Lib.hid hll
  clear hll
  go_enter Try.func46, Try.ntmps46
  go_wp2_with fail
  refine HX.out.mono ?_
  rintro e w1 ⟨rfl, hb⟩
  have hbw : Below w.heap.size w w1 := HB.out.trans (hb.mono HB.out.size)
  have h1 := H.out.grow hbw
  have hq : w1.cell? ⟨w.heap.size, 0, none⟩ = some (.int .i64 t) := by
    rw [hb.cell (p := ⟨w.heap.size, 0, none⟩) (by simp), (Blk.new w #[.int .i64 t] 3).cell]; rfl
  have HD := Lib.hid (deleteFunc113 w.heap.size t A l c ws w1 B (by have := h1.row; rw [HLL.out] at this; exact this) HLL.out hq (fun e => by have := (H.out.row.lt _ e).2; omega))
  have k0 := h1.blk.cell 0
  have klt := h1.blk.lt
  clear h1 hb
  go_wp2_with fail
  refine HD.out.mono ?_
  rintro e w2 ⟨rfl, hr2, hf2⟩
  obtain ⟨hgo, m0, mf, ml⟩ := wa_del H.out hbw hr2 hf2
  have HGO := Lib.hid hgo
  clear hgo hr2 hf2
  generalize (wout ws t).length = l9 at *
  go_wp2
  go_ret
  exact ⟨rfl, HGO.out⟩
end Go.Proofs.Ytenhcpobncmedaa
