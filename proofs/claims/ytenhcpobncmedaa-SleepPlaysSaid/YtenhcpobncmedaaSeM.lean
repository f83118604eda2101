/- Locks that are slept for: contract of Drop. -/
import Derived.Test.YtenhcpobncmedaaSeL
namespace Go.Proofs.Ytenhcpobncmedaa
open Go.RowKit Go.Maps
set_option maxHeartbeats 400000
set_option linter.unusedVariables false
set_option linter.unusedSimpArgs false
def dropE (s : LkS) (t : Int) : Int := if (s.P t).isSome = true then (if (wfor s.F t).isSome = true then 0 else 8) else 4
/-- A task waits no more. -/
def goS (s : LkS) (t : Int) : LkS := ⟨s.P, s.O, fun i => (s.F i).filter (· != t)⟩
def dropS (s : LkS) (t : Int) : LkS := if dropE s t = 0 then goS s t else s
section
variable {w : World} {B g bp np bf nf : Nat} {vs : Nat → Value} {s : LkS}
theorem LkP.drop1 (hs : LkOk s) (h : LkP w B g bp np bf nf vs s) {w1 : World} {k : Nat} {v : Value} {t : Int} (hk : k < 16) (ht : t ∈ s.F k) (hf' : Fr (fun j => (vs k).ownBlock = some j) w w1) (hr' : Row w1 B 3 1 v (without (s.F k) t).length ((without (s.F k) t).map (Value.int .i64)))
    (ho' : ∀ j, v.ownBlock = some j → (vs k).ownBlock = some j ∨ w.heap.size ≤ j) {W : World} (hW : Fr Nil (w1.setCell ⟨g, 17 + k, none⟩ v) W) (hWs : W.heap.size = w1.heap.size) :
    W.cell? ⟨g, 33, none⟩ = some (.map (some bf)) ∧ ∃ w2, (∀ ty, (Builtin.delete_ #[78, 3] ty #[.map (some bf), .int .i64 t]).run Try.prog W = .ok (.tuple #[]) w2) ∧ LkPGo w B g bp bf vs np nf (goS s t) w2 := by
  have hxt := hs.task (hs.mem k hk t ht).1
  have hw0 := hs.without hk ht
  have hfor : forM (updV s.F k (without (s.F k) t)) = fun z => if z = t then none else forM s.F z := by
    rw [← forM_rem]
    exact (forM_congr (fun i hi => hw0 i hi)).symm
  obtain ⟨h33, w2, hrun, hgo⟩ := h.rem hk hf' (xs' := without (s.F k) t) hr' ho' (task_wf hxt.1 hxt.2) hfor hW hWs
  exact ⟨h33, w2, hrun, hgo.congr rfl rfl (fun i hi => (hw0 i hi).symm)⟩
set_option maxHeartbeats 1000000 in
set_option maxRecDepth 100000 in
theorem drop60 (hs : LkOk s) (h : LkP w B g bp np bf nf vs s) (hB : B ≤ w.heap.size) (t : Int) (ht : (Lit.int .i64 t).wf = true) :
    Calls Try.prog 60 #[.pointer (some ⟨g, 0, none⟩), .int .i64 t] w (TaskPost w B g bp bf np nf vs (dropE s t) (dropS s t)) := by
  have hmf : ∀ fn first cap w, (Instr.makeFunc fn first cap).run Try.prog w = .ok (.func fn first cap) w := fun _ _ _ _ => rfl
  have hb1 : Below w.heap.size w (w.alloc (.cells #[.int .i64 t] 3)) := (Below.refl _ _).alloc (Nat.le_refl _) _
  have h1 := h.grow hb1
  have hq := (Blk.new w #[.int .i64 t] 3).cell 0
  have hp := h1.rd.hp
  have hf := h1.rd.hf
  have hgl : g < w.heap.size := h.m.arr.blk.lt
  have hlk : ∀ m, (Instr.lookup 78 (.map (some bp)) (.int .i64 t) true).run Try.prog ((w.alloc (.cells #[.int .i64 t] 3)).drewN m) = .ok (.tuple #[.int .i64 ((s.P t).getD 0), .bool (s.P t).isSome]) ((w.alloc (.cells #[.int .i64 t] 3)).drewN m) := fun m => (h1.rd.toLkR.grow (sl_below_drewN (Below.refl _ _) m)).look ht
  have hlf : ∀ m, (Instr.lookup 78 (.map (some bf)) (.int .i64 t) true).run Try.prog ((w.alloc (.cells #[.int .i64 t] 3)).drewN m) = .ok (.tuple #[.int .i64 ((forM s.F t).getD 0), .bool (forM s.F t).isSome]) ((w.alloc (.cells #[.int .i64 t] 3)).drewN m) := fun m => (h1.rd.grow (sl_below_drewN (Below.refl _ _) m)).lookF ht
  have HS := Lib.hid (fun er m => TaskPost.same (er := er) h (sl_below_drewN hb1 m))
  cases hP : (s.P t).isSome with
  | false =>
    have e1 : dropE s t = 4 := by simp [dropE, hP]
    have e2 : dropS s t = s := by simp [dropS, e1]
    rw [e1, e2]
    rw [hP] at hlk
    generalize (s.P t).getD 0 = p at *
    clear h h1 hlf e1 e2 hP
    go_enter Try.func60, Try.ntmps60
    go_wp2
    go_quiet (fail)
    go_wp2
    go_ret
    exact HS.out 4 _
  | true =>
    rw [hP] at hlk
    generalize (s.P t).getD 0 = p at *
    cases hw : wfor s.F t with
    | none =>
      have e1 : dropE s t = 8 := by simp [dropE, hP, hw]
      have e2 : dropS s t = s := by simp [dropS, e1]
      rw [e1, e2]
      rw [forM_none hw] at hlf
      clear h h1 e1 e2 hP hw
      go_enter Try.func60, Try.ntmps60
      go_wp2
      go_quiet (fail)
      go_wp2
      go_quiet (fail)
      go_wp2
      go_ret
      exact HS.out 8 _
    | some k =>
      have e1 : dropE s t = 0 := by simp [dropE, hP, hw]
      have e2 : dropS s t = goS s t := by simp [dropS, e1]
      rw [e1, e2]
      rw [forM_some hw] at hlf
      obtain ⟨hk, htk⟩ := wfor_some hw
      clear e1 e2 hP hw
      go_enter Try.func60, Try.ntmps60
      go_wp2
      go_quiet (fail)
      go_wp2
      go_quiet (fail)
      go_wp2
      rename_i n1 _ _
      obtain ⟨W0, hW0⟩ : ∃ W0, W0 = (w.alloc (.cells #[.int .i64 t] 3)).drewN (n1 + nq) := ⟨_, rfl⟩
      rw [← hW0]
      have hbW : Below w.heap.size w W0 := by rw [hW0]; exact sl_below_drewN hb1 _
      have hq0 : W0.cell? ⟨w.heap.size, 0, none⟩ = some (.int .i64 t) := by rw [hW0]; exact hq
      have hgW : w.heap.size < W0.heap.size := by rw [hW0]; simp
      clear hlk hlf hq hp hf h1 hb1 hW0
      have h3 := h.grow hbW
      have hcv := h3.m.arr.cell hk
      rw [hdO_len] at hcv
      obtain ⟨A, c, hvv, hc1, hc2⟩ := (h3.m.arr.row k hk).shape
      have hrow := h3.m.arr.row k hk
      have hov := (h.m.arr.row k hk).lt
      rw [hvv] at hcv hrow hov
      have hfz := h3.m.arr.blk.free
      have hgl3 := h3.m.arr.blk.lt
      have hk16 : (k : Int) < 16 := by omega
      have hk0 : (0 : Int) ≤ k := by omega
      have HD := Lib.hid (deleteFunc121 w.heap.size t A _ c (s.F k) W0.drew B hrow.drew hq0 (fun e => by have := (hov _ e).2; omega))
      have HAP := Lib.hid (fun w1 (hf : Fr (fun j => (Value.slice A 0 0).ownBlock = some j) W0.drew w1) => Arr.app (w1 := w1) (h3.m.arr.keep ((Fr.refl Nil _).drew) (fun _ _ h => h)) hk (hf.mono (S' := fun j => (vs k).ownBlock = some j) (fun j _ hj => by rw [hvv, ← hj]; exact pr_own)))
      unfold DelFPost at HD
      have HV := Lib.hid hvv
      have HFIN : Hid (∀ (w1 : World), Fr (fun j => (Value.slice A 0 0).ownBlock = some j) W0.drew w1 → Row w1 B 3 1 (.slice A (without (s.F k) t).length c) (without (s.F k) t).length ((without (s.F k) t).map (Value.int .i64)) → ∀ W, Fr Nil (w1.setCell ⟨g, 17 + k, none⟩ (.slice A (without (s.F k) t).length c)) W → W.heap.size = w1.heap.size →
          W.cell? ⟨g, 33, none⟩ = some (.map (some bf)) ∧ W.cell? ⟨w.heap.size, 0, none⟩ = some (.int .i64 t) ∧ (∀ m, ∃ w2, (∀ ty, (Builtin.delete_ #[78, 3] ty #[.map (some bf), .int .i64 t]).run Try.prog (W.drewN m) = .ok (.tuple #[]) w2) ∧ LkPGo w B g bp bf vs np nf (goS s t) w2)) := Lib.hid (fun w1 hf hr W hW hWs => by
        have hf2 : Fr (fun j => (vs k).ownBlock = some j) W0 w1 := (((Fr.refl Nil W0).drew).mono (fun _ _ h => h.elim)).trans (hf.mono (S' := fun j => (vs k).ownBlock = some j) (fun j _ hj => by rw [hvv, ← hj]; exact pr_own)) (fun _ _ h => h)
        have ho : ∀ j, (Value.slice A (without (s.F k) t).length c).ownBlock = some j → (vs k).ownBlock = some j ∨ W0.heap.size ≤ j := fun j hj => .inl (by rw [hvv, ← hj]; exact pr_own)
        refine ⟨(h3.drop1 hs hk htk hf2 hr ho hW hWs).1, ?_, fun m => ?_⟩
        · refine (hW.cell (p := ⟨w.heap.size, 0, none⟩) (by have := hf2.size; simp; omega) (fun h => h)).trans ?_
          have hne : g ≠ w.heap.size := by omega
          refine (World.cell?_of_block (Below.heap_setCell w1 _ _ w.heap.size (Ne.symm hne))).trans ?_
          refine (hf2.cell (p := ⟨w.heap.size, 0, none⟩) hgW (fun e => ?_)).trans hq0
          rw [hvv] at e
          have := (hov w.heap.size e).2
          exact absurd this (Nat.lt_irrefl _)
        · obtain ⟨_, w2, q1, q2⟩ := h3.drop1 hs hk htk hf2 hr ho (hW.drewN m) hWs
          exact ⟨w2, q1, q2.of_grow hbW⟩)
      generalize (s.F k).length = ol at *
      generalize without (s.F k) t = ys at *
      clear h3 hrow hov hbW hvv htk
      go_region_with (go_at_call 85; refine HD.out.mono ?_; rintro e w1 ⟨rfl, hr1, hf1⟩; obtain ⟨ka, kb, kc, kd⟩ := HAP.out w1 hf1; have ka1 : w1.cell? ⟨g, 17 + k, none⟩ = some (.slice A ol c) := (by rw [hdO_len] at ka; exact ka.trans (congrArg some HV.out)); clear kd ka)
      all_goals
        first
        | (obtain ⟨h33, hq9, hup⟩ := HFIN.out w1 hf1 hr1 _ (Fr.refl _ _) (by simp)
           obtain ⟨w2, hup2, hgo⟩ := hup 1
           have HGO := Lib.hid hgo
           clear hgo ka1 kb kc hr1 hf1 hup
           generalize w1.setCell ⟨g, 17 + k, none⟩ (.slice A ys.length c) = W at *
           have hup3 : ∀ ty, (Builtin.delete_ #[78, 3] ty #[.map (some bf), .int .i64 t]).run Try.prog W.drew = .ok (.tuple #[]) w2 := hup2
           clear hup2
           go_wp2
           go_region
           all_goals
             go_wp2
             go_ret
             exact ⟨rfl, np, nf, by omega, by omega, HGO.out⟩)
        | fail
end
end Go.Proofs.Ytenhcpobncmedaa
