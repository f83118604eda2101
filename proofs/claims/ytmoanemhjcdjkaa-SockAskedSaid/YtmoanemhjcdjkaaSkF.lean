/- Contracts of the sockets' Shut, Tell, gone. -/
import Derived.Test.YtmoanemhjcdjkaaSkE
import Derived.Test.YtmoanemhjcdjkaaSkP
namespace Go.Proofs.Ytmoanemhjcdjkaa
open Go.RowKit
set_option maxHeartbeats 400000
set_option linter.unusedVariables false
set_option linter.unusedSimpArgs false
section
variable {w : World} {B g : Nat} {F : Fs} {L : Nat → Sl} {i : Nat} {p p' : Sk}
set_option maxRecDepth 100000 in
theorem shut_any (h : Re w B g F L) (id : Int) : Calls Try.prog 20 #[.pointer (some ⟨g, 0, none⟩), .int .i64 id] w (NamePost w B g F L (ShutR F id)) := by
  have HP := Lib.hid h.refl
  cases ha : at1 F id with
  | none =>
    have HJ := Lib.hid (joined_none h ha)
    have HR : Hid (ShutR F id 4 F) := Lib.hid (.none ha)
    clear h ha
    go_enter Try.func20, Try.ntmps20
    go_wp2_with fail
    refine HJ.out.mono ?_
    rintro x w' ⟨rfl, rfl⟩
    go_wp2
    go_ret
    exact namePost HR.out HP.out
  | some x =>
    obtain ⟨i, hi, rfl, hp⟩ := at1_some ha
    by_cases hk : x.kind = 3
    · have HJ := Lib.hid (joined_ok h hi hp hk)
      generalize ptr1 F L x.peer = y at *
      have o := h.ob i x hi hp
      have c6 := o.blk.cell 6
      have hl := o.blk.lt
      have hf6 := o.blk.free 6
      dsimp [Sk.cells] at c6
      cases hs : x.shut with
      | true =>
        have HR : Hid (ShutR F ((i : Int) + 1) 8 F) := Lib.hid (.state ha (.inr hs))
        rw [hs] at c6
        clear h ha hp o hk hs
        go_enter Try.func20, Try.ntmps20
        go_wp2_with fail
        refine HJ.out.mono ?_
        rintro x w' ⟨rfl, rfl⟩
        go_wp2
        go_ret
        exact namePost HR.out HP.out
      | false =>
        have HR : Hid (ShutR F ((i : Int) + 1) 0 (put F i (some { x with shut := true }))) := Lib.hid (.ok hi rfl hp hk hs)
        have HG : Hid (RGo w B g F L (put F i (some { x with shut := true })) (w.setCell ⟨(L i).b, 6, none⟩ (.bool true))) := Lib.hid (h.poke1 hi hp (by rfl) rfl rfl o.ok)
        rw [hs] at c6
        clear h ha hp o hk hs HP
        go_enter Try.func20, Try.ntmps20
        go_wp2_with fail
        refine HJ.out.mono ?_
        rintro x w' ⟨rfl, rfl⟩
        go_wp2
        go_ret
        exact namePost HR.out HG.out
    · have HJ := Lib.hid (joined_state h hi hp hk)
      have HR : Hid (ShutR F ((i : Int) + 1) 8 F) := Lib.hid (.state ha (.inl hk))
      clear h ha hp hk
      go_enter Try.func20, Try.ntmps20
      go_wp2_with fail
      refine HJ.out.mono ?_
      rintro x w' ⟨rfl, rfl⟩
      go_wp2
      go_ret
      exact namePost HR.out HP.out
/-- What Tell answers. -/
def TellPost (w : World) (F : Fs) (id : Int) (e : Ending) (w' : World) : Prop := ∃ a b c d, e = .returned (.tuple #[.int .i64 a, .int .i64 b, .int .i64 c, .int .i64 d]) ∧ TellR F id a b c d ∧ Below w.heap.size w w'
set_option maxRecDepth 100000 in
theorem tell_any (h : Re w B g F L) (id : Int) : Calls Try.prog 24 #[.pointer (some ⟨g, 0, none⟩), .int .i64 id] w (TellPost w F id) := by
  cases ha : at1 F id with
  | none =>
    have HF := Lib.hid (find_none h ha)
    have HR : Hid (TellR F id 0 0 0 4) := Lib.hid (.none ha)
    clear h ha
    go_enter Try.func24, Try.ntmps24
    go_wp2_with fail
    refine HF.out.mono ?_
    rintro x w' ⟨rfl, rfl⟩
    go_wp2
    exact bodyPost_ret (v := .tuple #[.int .i64 0, .int .i64 0, .int .i64 0, .int .i64 4]) (by simp [results, Try.results24, go_sem]) rfl ⟨_, _, _, _, rfl, HR.out, Below.refl _ _⟩
  | some p =>
    obtain ⟨i, hi, rfl, hp⟩ := at1_some ha
    have HF := Lib.hid (find_some h hi hp)
    have HR : Hid (TellR F ((i : Int) + 1) p.kind p.port ((p.q.length : Int) + p.bs.length) 0) := Lib.hid (.ok ha)
    obtain ⟨o1, o2, o3, o4, o5⟩ := h.ob i p hi hp
    obtain ⟨A0, n0, hv0, -, -⟩ := o2.shape
    obtain ⟨A1, n1, hv1, -, -⟩ := o3.shape
    obtain ⟨-, -, -, -, -, k6, k7, -, -, k8, -⟩ := o5
    have hq4 : p.q.length ≤ 4 := by omega
    have c0 := o1.cell 0
    have c1 := o1.cell 1
    have c3 := o1.cell 3
    have c5 := o1.cell 5
    have hl := o1.lt
    dsimp [Sk.cells] at c0 c1 c3 c5
    rw [hv0] at c3
    rw [hv1] at c5
    clear h hp ha o1 o2 o3 o4 hv0 hv1 k6 k7
    generalize p.q.length = a at *
    generalize p.bs.length = b at *
    go_enter Try.func24, Try.ntmps24
    go_wp2_with fail
    refine HF.out.mono ?_
    rintro x w' ⟨rfl, rfl⟩
    go_wp2_with fail
    refine wp_region_near w.heap.size (by kernel_rfl) (by kernel_rfl) ?_
    repeat (go_big_quiet_step (fail))
    refine wpQuiet_nil ?_
    intro w3 hb3
    go_wp2
    exact bodyPost_ret (v := .tuple #[.int .i64 p.kind, .int .i64 p.port, .int .i64 ((a : Int) + b), .int .i64 0]) (by simp [results, Try.results24, go_sem]) rfl ⟨_, _, _, _, rfl, HR.out, hb3⟩
/-- What gone leaves. -/
def GonePost (w : World) (B g : Nat) (F : Fs) (L : Nat → Sl) (F' : Fs) (e : Ending) (w' : World) : Prop := e = .returned (.tuple #[]) ∧ Re w' B g F' L ∧ Fr (fun k => k = g ∨ ∃ i y, i < 16 ∧ F i = some y ∧ k = (L i).b) w w'
set_option maxRecDepth 100000 in
theorem gone_any (h : Re w B g F L) (hv : PInv F) (hi : i < 16) (hp : F i = some p) : Calls Try.prog 37 #[.pointer (some ⟨g, 0, none⟩), .int .i64 ((i : Int) + 1)] w (GonePost w B g F L (cutL F [(i : Int) + 1])) := by
  have ce := (h.blk.cell i).trans (cellsA_at F (fun i => (L i).b) hi)
  rw [ptrA_some hp] at ce
  have hlg := h.blk.lt
  have hi' : (i : Int) < 16 := by omega
  have hfg := h.blk.free i
  have o := h.ob i p hi hp
  have c4 := o.blk.cell 4
  have hl := o.blk.lt
  dsimp [Sk.cells] at c4
  by_cases h0 : p.peer = 0
  · have HF := Lib.hid (find_none h (id := p.peer) (by rw [h0]; unfold at1; rw [if_neg (by omega)]))
    have HG : Hid (GonePost w B g F L (cutL F [(i : Int) + 1]) (.returned (.tuple #[])) (w.setCell ⟨g, i, none⟩ (.pointer none))) := Lib.hid (by
      rw [cut_alone hv hi hp h0]
      exact ⟨rfl, h.del_re hi, (Fr.refl _ w).setCell (p := ⟨g, i, none⟩) (fun _ => .inl rfl) _⟩)
    clear h hv hp o h0
    go_enter Try.func37, Try.ntmps37
    go_wp2_with fail
    refine HF.out.mono ?_
    rintro x w' ⟨rfl, rfl⟩
    go_wp2
    go_end0
    exact HG.out
  · obtain ⟨k, y, hk, hki, hpe, hy, hyp⟩ := hv.peer i p hi hp h0
    have HF : Hid (Calls Try.prog 29 #[.pointer (some ⟨g, 0, none⟩), .int .i64 p.peer] w fun e w' => e = .returned (.pointer (some ⟨(L k).b, 0, none⟩)) ∧ w = w') := Lib.hid (by rw [hpe]; exact find_some h hk hy)
    have oy := h.ob k y hk hy
    have d4 := oy.blk.cell 4
    have hly := oy.blk.lt
    have hfy := oy.blk.free 4
    dsimp [Sk.cells] at d4
    have hgy : g ≠ (L k).b := pp_blk_ne h.blk oy.blk (by decide)
    have ce2 : (w.setCell ⟨(L k).b, 4, none⟩ (.int .i64 0)).cell? ⟨g, i, none⟩ = some (.pointer (some ⟨(L i).b, 0, none⟩)) := by
      rw [← ce]
      exact World.cell?_of_block (Below.heap_setCell w _ _ g hgy)
    have HG : Hid (GonePost w B g F L (cutL F [(i : Int) + 1]) (.returned (.tuple #[])) ((w.setCell ⟨(L k).b, 4, none⟩ (.int .i64 0)).setCell ⟨g, i, none⟩ (.pointer none))) := Lib.hid (by
      rw [cut_both hv hi hp hk hpe hy]
      have h1 : Re (w.setCell ⟨(L k).b, 4, none⟩ (.int .i64 0)) B g (put F k (some { y with peer := 0 })) (setL L k (L k)) := h.put_re hk hy rfl ((Fr.refl _ w).setCell (p := ⟨(L k).b, 4, none⟩) (fun _ => .inl rfl) _)
        ⟨oy.blk.set 4 (.int .i64 0), oy.q.setCell (pp_row_blk oy.q oy.blk (by decide)) _, oy.s.setCell (pp_row_blk oy.s oy.blk (by decide)) _, oy.low, by obtain ⟨o1, o2, o3, o4, o5, o6, o7, o8, o9, o10, o11⟩ := oy.ok; exact ⟨o1, o2, o3, o4, o5, o6, o7, by dsimp only; omega, by dsimp only; omega, o10, o11⟩⟩ (fun _ e => .inl e)
      have e : setL L k (L k) = L := by
        funext j
        by_cases e : j = k
        · subst e; rw [setL_same]
        · rw [setL_other L e]
      rw [e] at h1
      exact ⟨rfl, h1.del_re hi, ((Fr.refl _ w).setCell (p := ⟨(L k).b, 4, none⟩) (fun _ => .inr ⟨k, y, hk, hy, rfl⟩) _).setCell (p := ⟨g, i, none⟩) (fun _ => .inl rfl) _⟩)
    clear h hv hp o h0 oy hy hpe hyp hki
    go_enter Try.func37, Try.ntmps37
    go_wp2_with fail
    refine HF.out.mono ?_
    rintro x w' ⟨rfl, rfl⟩
    go_wp2
    go_end0
    exact HG.out
end
end Go.Proofs.Ytmoanemhjcdjkaa
