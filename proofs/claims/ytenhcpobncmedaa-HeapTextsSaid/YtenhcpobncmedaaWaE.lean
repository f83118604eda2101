/- Contracts of slices.DeleteFunc over waiters and of Out of wait.Queue. -/
import Derived.Test.YtenhcpobncmedaaWaD
namespace Go.Proofs.Ytenhcpobncmedaa
open Go.RowKit
set_option maxHeartbeats 400000
set_option linter.unusedVariables false
set_option linter.unusedSimpArgs false
theorem flat_set : ∀ (L : List Wt) (i : Nat) (y : Wt), i < L.length → ((L.flatMap Wt.cells).set (i * 2) (.int .i64 y.t)).set (i * 2 + 1) (.bool y.al) = (L.set i y).flatMap Wt.cells
  | [], i, y, h => by simp at h
  | a :: L, 0, y, h => by simp [Wt.cells]
  | a :: L, i + 1, y, h => by
    have ih := flat_set L i y (by simpa using h)
    have e : (i + 1) * 2 = i * 2 + 1 + 1 := by omega
    simp only [List.flatMap_cons, Wt.cells, List.cons_append, List.nil_append, List.set_cons_succ, e]
    rw [← ih]
theorem flat_take : ∀ (L : List Wt) (i : Nat), (L.flatMap Wt.cells).take (i * 2) = (L.take i).flatMap Wt.cells
  | [], i => by simp
  | a :: L, 0 => by simp
  | a :: L, i + 1 => by
    have ih := flat_take L i
    have e : (i + 1) * 2 = i * 2 + 1 + 1 := by omega
    simp only [List.flatMap_cons, Wt.cells, List.cons_append, List.nil_append, List.take_succ_cons, e]
    rw [ih]
/-- The waiters without t. -/
def wout (ws : List Wt) (t : Int) : List Wt := ws.filter fun c => c.t != t
theorem wts_wout (ws : List Wt) (t : Int) : wts (wout ws t) = without (wts ws) t := by
  unfold wts wout without
  rw [List.filter_map]; rfl
theorem wout_none {ws : List Wt} {t : Int} (h : idxI (wts ws) t = -1) : wout ws t = ws := by
  unfold wout
  rw [List.filter_eq_self]
  intro y hy
  have := idxI_nonneg (wts ws) t
  rw [h] at this
  simp at this
  simp
  rintro rfl
  exact this (List.mem_map_of_mem hy)
theorem widx_some {ws : List Wt} {t : Int} (h : idxI (wts ws) t ≠ -1) : ∃ i : Nat, idxI (wts ws) t = i ∧ i < ws.length ∧ wout (ws.take (i + 1)) t = ws.take i := by
  unfold idxI wts at h ⊢
  rw [List.findIdx?_map] at h ⊢
  cases hq : ws.findIdx? ((· == t) ∘ Wt.t) with
  | none => rw [hq] at h; exact absurd rfl h
  | some i =>
    obtain ⟨hi, h1, h2⟩ := List.findIdx?_eq_some_iff_getElem.1 hq
    refine ⟨i, rfl, hi, ?_⟩
    unfold wout
    rw [List.take_succ_eq_append_getElem hi, List.filter_append]
    have e1 : (ws.take i).filter (fun c => c.t != t) = ws.take i := by
      rw [List.filter_eq_self]
      intro y hy
      obtain ⟨j, hj, rfl⟩ := List.mem_iff_getElem.1 hy
      rw [List.length_take] at hj
      have := h2 j (by omega)
      simpa using this
    rw [e1]
    simp at h1
    simp [h1]
def WDelPost (w : World) (B : Nat) (A : Option Addr) (c : Nat) (ys : List Wt) (e : Ending) (w' : World) : Prop :=
  e = .returned (.slice A ys.length c) ∧ Row w' B 155 2 (.slice A ys.length c) ys.length (ys.flatMap Wt.cells) ∧ Fr (fun k => (Value.slice A 0 0).ownBlock = some k) w w'
theorem wa_zero155 (w : World) : (zeroValue 155).run Try.prog w = .ok (.agg #[.int .i64 0, .bool false]) w := by kernel_rfl
set_option maxHeartbeats 1000000 in
set_option maxRecDepth 100000 in
theorem deleteFunc113 (q : Nat) (t : Int) (A : Option Addr) (n c : Nat) (ws : List Wt) (w : World) (B : Nat) (h : Row w B 155 2 (.slice A n c) n (ws.flatMap Wt.cells)) (hwn : ws.length = n) (hq : w.cell? ⟨q, 0, none⟩ = some (.int .i64 t)) (hqo : (Value.slice A n c).ownBlock ≠ some q) :
    Calls Try.prog 113 #[.slice A n c, .func (.func 114) #[] #[.pointer (some ⟨q, 0, none⟩)]] w (WDelPost w B A c (wout ws t)) := by
  obtain ⟨hnc, hcm⟩ : n ≤ c ∧ c ≤ maxLen := by
    obtain ⟨A', c', e0, h1, h2⟩ := h.shape
    injection e0 with e1 _ e2
    subst e2
    exact ⟨h1, h2⟩
  unfold maxLen at hcm
  have HL := Lib.hid hwn
  have HI := Lib.hid (idx155_114 t q A n c ws w _ ⟨h.reads, hwn⟩ (Nat.le_refl _) (by omega) hq)
  have hql := pr_lt_cell hq
  by_cases hi : idxI (wts ws) t = -1
  · have HW := Lib.hid (wout_none hi)
    rw [hi] at HI
    clear hi
    go_enter Try.func113, Try.ntmps113
    go_wp2_with fail
    refine HI.out.mono ?_
    rintro e w' ⟨rfl, hb⟩
    have hr := h.grow hb
    go_wp2
    go_ret
    exact ⟨pr_slice (by rw [HW.out, HL.out]), by rw [HW.out, HL.out]; exact hr, (Fr.of_grow hb).mono (fun _ _ h => h.elim)⟩
  · obtain ⟨i0, hi0, hil, hit⟩ := widx_some hi
    rw [hi0] at HI
    have HT := Lib.hid hit
    rw [hwn] at hil
    obtain ⟨g, o, rfl, hBg⟩ : ∃ g o, A = some ⟨g, o, none⟩ ∧ B ≤ g := by
      rcases h.2 with ⟨_, h0⟩ | ⟨g, o, cap, cur, e1, hBg, _⟩
      · omega
      · injection e1 with e1
        exact ⟨g, o, e1, hBg⟩
    clear hi hi0 hit
    have hqg : ¬ g = q := fun e => hqo (by simp [Value.ownBlock, e])
    have hqg' : ¬ q = g := fun e => hqg e.symm
    have hm1 : ((i0 : Int) == -1) = false := by simp <;> omega
    have hz3 := wa_zero155
    have hgl0 : g < w.heap.size := (h.lt g (by simp [Value.ownBlock])).2
    go_enter Try.func113, Try.ntmps113
    go_wp2_with fail
    refine HI.out.mono ?_
    rintro e w' ⟨rfl, hb⟩
    have hr0 := h.grow hb
    have hf0 : Fr (fun k => k = g) w w' := (Fr.of_grow hb).mono (fun _ _ h => h.elim)
    go_wp2
    go_loopw [5, 6] (fun a b wr => ∃ (i j : Nat) (L : List Wt), i < j ∧ j ≤ n ∧ a = .int .i64 i ∧ b = .int .i64 j ∧ Hid (L.length = n ∧ L.take i = wout (ws.take j) t ∧ L.drop j = ws.drop j) ∧ Row wr B 155 2 (.slice (some ⟨g, o, none⟩) n c) n (L.flatMap Wt.cells) ∧ Fr (fun k => k = g) w wr) (fun _ b _ => n - (intOf b).toNat)
    case atStart => exact ⟨i0, i0 + 1, ws, by omega, by omega, rfl, by go_num, Lib.hid ⟨HL.out, HT.out.symm, rfl⟩, hr0, hf0⟩
    case round =>
      obtain ⟨i, j, L, hij, hj, rfl, rfl, HH, hr, hf⟩ := hrel
      have hqr : wr.cell? ⟨q, 0, none⟩ = some (.int .i64 t) := (hf.cell (p := ⟨q, 0, none⟩) hql hqg').trans hq
      obtain ⟨hLl, hLt, hLd⟩ := HH.out
      have hwsz := hf.size
      by_cases hlt : j < n
      · obtain ⟨b, o', e9, hb, k0, k1⟩ := Wt.at_ (cs := L) ⟨hr.reads, hLl⟩ hlt
        injection e9 with e9
        injection e9 with e1 e2
        subst e1; subst e2
        have hjx : j < ws.length := by rw [HL.out]; exact hlt
        have hy : L.getD j Wt.zero = ws.getD j Wt.zero := by
          have := congrArg (fun l => l.getD 0 Wt.zero) hLd
          simpa [List.getD] using this
        have hxj : wout (ws.take (j + 1)) t = wout (ws.take j) t ++ (if ((ws.getD j Wt.zero).t == t) = true then [] else [ws.getD j Wt.zero]) := by
          unfold wout
          rw [List.take_succ_eq_append_getElem hjx, List.filter_append]
          have : ws.getD j Wt.zero = ws[j] := by simp [List.getD, List.getElem?_eq_getElem hjx]
          rw [this]
          by_cases h' : ws[j].t = t <;> simp [h']
        have hxd : L.drop (j + 1) = ws.drop (j + 1) := by
          have := congrArg (fun l => l.drop 1) hLd
          simpa [Nat.add_comm] using this
        rw [hy] at k0 k1
        have HXJ := Lib.hid hxj
        have HXD := Lib.hid hxd
        have HLL := Lib.hid hLl
        have HLT := Lib.hid hLt
        have HS := Lib.hid (fun (W : World) (hW : Row W B 155 2 (.slice (some ⟨g, o, none⟩) n c) n (L.flatMap Wt.cells)) => by
          have h1 := hW.stored (j := i * 2) (by omega) (.int .i64 (ws.getD j Wt.zero).t)
          have h2 := h1.stored (j := i * 2 + 1) (by omega) (.bool (ws.getD j Wt.zero).al)
          rw [flat_set L i _ (by omega)] at h2
          exact h2)
        have HR := Lib.hid hr
        have HFr := Lib.hid hf
        have HF := Lib.hid (clo114 (ws.getD j Wt.zero).t (ws.getD j Wt.zero).al t q (wr.alloc (.cells #[.int .i64 (ws.getD j Wt.zero).t, .bool (ws.getD j Wt.zero).al] 155)) (((Below.refl wr.heap.size wr).alloc (Nat.le_refl _) _).cell (p := ⟨q, 0, none⟩) (Nat.lt_of_lt_of_le hql hwsz) |>.trans hqr))
        have HSE : Hid ((L.set i (ws.getD j Wt.zero)).take (i + 1) = L.take i ++ [ws.getD j Wt.zero]) := Lib.hid (by
          have hiL : i < L.length := by rw [hLl]; omega
          rw [List.take_succ_eq_append_getElem (by simpa using hiL), List.getElem_set_self, List.take_set, List.set_eq_of_length_le (by rw [List.length_take]; omega)])
        have HD : Hid ((L.set i (ws.getD j Wt.zero)).drop (j + 1) = L.drop (j + 1)) := Lib.hid (by
          rw [List.drop_set, if_pos (by omega)])
        clear hxj hy hLl hLt hLd hxd HH hr hf
        obtain ⟨y, hyy⟩ : ∃ y, ws.getD j Wt.zero = y := ⟨_, rfl⟩
        rw [hyy] at HXJ HS HF HSE HD k0 k1
        clear hyy
        obtain ⟨yt, yal⟩ := y
        dsimp only at HXJ HF k0 k1
        by_cases hyt : yt = t
        · have d : (yt == t) = true := by simpa using hyt
          rw [d, if_pos rfl, List.append_nil] at HXJ
          rw [d] at HF
          clear hyt
          go_wp2_with fail
          refine HF.out.mono ?_
          rintro e w1 ⟨rfl, hb1⟩
          have hbw : Below wr.heap.size wr w1 := ((Below.refl _ _).alloc (Nat.le_refl _) _).trans (hb1.mono (by simp))
          go_wp2
          go_roundw
          case rel => exact ⟨i, j + 1, L, by omega, by omega, rfl, by go_num, Lib.hid ⟨HLL.out, by rw [HXJ.out]; exact HLT.out, HXD.out⟩, HR.out.grow hbw, HFr.out.trans ((Fr.of_grow hbw).mono (fun _ _ h => h.elim)) (fun _ _ h => h)⟩
          case measure => simp [intOf]; omega
        · have d : (yt == t) = false := by simpa using hyt
          rw [d, if_neg (by simp)] at HXJ
          rw [d] at HF
          clear hyt
          go_wp2_with fail
          refine HF.out.mono ?_
          rintro e w1 ⟨rfl, hb1⟩
          have hbw : Below wr.heap.size wr w1 := ((Below.refl _ _).alloc (Nat.le_refl _) _).trans (hb1.mono (by simp))
          have hr1 := HR.out.grow hbw
          have hx0 := ((Blk.new wr #[.int .i64 yt, .bool yal] 155).fr (Fr.of_grow hb1) (fun h => h)).cell
          have hx1 := ((Blk.new wr #[.int .i64 yt, .bool yal] 155).fr (Fr.of_grow hb1) (fun h => h)).lt
          have hx2 := hx0 0
          have hx3 := hx0 1
          obtain ⟨hgf, hgl⟩ : (∀ k, w1.frozen? ⟨g, k, none⟩ = false) ∧ g < w1.heap.size := by
            rcases hr1.2 with ⟨e1, _⟩ | ⟨g', o'', cap, cur, e1, _, hg, _⟩
            · injection e1 with e1; cases e1
            · injection e1 with e1; injection e1 with e1; injection e1 with e1 _
              subst e1
              exact ⟨fun k => Blk.free (w := w1) hg k, lt_blk hg⟩
          obtain ⟨_, _, e9, _, kc0, kc1⟩ := Wt.at_ (cs := L) (i := i) ⟨hr1.reads, HLL.out⟩ (by omega)
          injection e9 with e9
          injection e9 with e1 e2
          subst e1; subst e2
          have kf0 := hgf (o + i * 2)
          have kf1 := hgf (o + i * 2 + 1)
          have HS1 := Lib.hid (HS.out w1 hr1)
          have HFR : Hid (Fr (fun k => k = g) w ((w1.setCell ⟨g, o + i * 2, none⟩ (.int .i64 yt)).setCell ⟨g, o + i * 2 + 1, none⟩ (.bool yal))) := Lib.hid (((HFr.out.trans ((Fr.of_grow hbw).mono (fun _ _ h => h.elim)) (fun _ _ h => h)).setCell (p := ⟨g, o + i * 2, none⟩) (fun _ => rfl) _).setCell (p := ⟨g, o + i * 2 + 1, none⟩) (fun _ => rfl) _)
          clear hr1 hx0
          go_wp2
          go_roundw
          case rel => exact ⟨i + 1, j + 1, L.set i ⟨yt, yal⟩, by omega, by omega, by go_num, by go_num, Lib.hid ⟨by rw [List.length_set]; exact HLL.out, by rw [HSE.out, HXJ.out, HLT.out], by rw [HD.out]; exact HXD.out⟩, HS1.out, HFR.out⟩
          case measure => simp [intOf]; omega
      · obtain rfl : j = n := by omega
        have hall : L.take i = wout ws t := by
          rw [hLt, List.take_of_length_le (by rw [HL.out]; exact Nat.le_refl _)]
        have hlw : (wout ws t).length = i := by rw [← hall, List.length_take]; omega
        have hri := hr.take (k := i) (by omega)
        have hfl : (L.flatMap Wt.cells).take (i * 2) = (wout ws t).flatMap Wt.cells := by
          rw [← hall, flat_take]
        rw [hfl] at hri
        obtain ⟨w9, hrun, hr9, hg9⟩ := run_clear_row (P := Try.prog) wr B 151 155 (.agg #[.int .i64 0, .bool false]) 2 Try.underlying151 hz3 rfl (by decide) (by simp [Value.cells, Value.oneCell']) g o i c (j - i) (c - i) ((wout ws t).flatMap Wt.cells) hri (by omega) (by omega)
        have hfin : Hid (Fr (fun k => k = g) w w9) := Lib.hid (hf.grown hg9 (fun k e _ => by injection e with e; exact e.symm))
        have q4 : ¬ c = i := by omega
        have q5 : (i : Int) ≤ j := by omega
        have q6 : (i : Int) ≤ c := by omega
        have q7 : i ≤ j := by omega
        have q8 : i ≤ c := by omega
        have HLW := Lib.hid hlw
        clear hLl hLt hLd hall hlw HH hri hg9 hr hf hfl
        go_wp2
        go_ret
        exact ⟨pr_slice HLW.out.symm, by rw [HLW.out]; exact hr9, hfin.out.mono (fun k _ e => by simp [Value.ownBlock, e])⟩
end Go.Proofs.Ytenhcpobncmedaa
