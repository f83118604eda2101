/- Contracts of Out, Turn, List, First and Bits of prio.Prio. -/
import Derived.Test.YtenhcpobncmedaaPrD
import Derived.Deep.RegionWith
namespace Go.Proofs.Ytenhcpobncmedaa
open Go.RowKit
set_option maxHeartbeats 400000
set_option linter.unusedVariables false
set_option linter.unusedSimpArgs false
set_option maxRecDepth 100000 in
theorem out_none (g : Nat) (t : Int) (F : Nat → List Int) (w : World) (hR : ArrR w g 1 F) (hm : ofI F t = -1) :
    Calls Try.prog 24 #[.pointer (some ⟨g, 0, none⟩), .int .i64 t] w fun e w' => e = .returned (.tuple #[.int .i64 0, .int .i64 4]) ∧ Below w.heap.size w w' := by
  have hb : Below w.heap.size w (w.alloc (.cells #[.int .i64 t] 3)) := (Below.refl _ _).alloc (Nat.le_refl _) _
  have HA := Lib.hid (at83 g t F (w.alloc (.cells #[.int .i64 t] 3)) (hR.grow hb))
  rw [hm] at HA
  have HB := Lib.hid hb
  clear hm hR hb
  go_enter Try.func24, Try.ntmps24
  go_wp2_with fail
  refine HA.out.mono ?_
  rintro e w' ⟨rfl, hb⟩
  go_wp2
  go_ret2
  exact ⟨rfl, HB.out.trans (hb.mono HB.out.size)⟩
def OutPost (w : World) (B g k : Nat) (vs : Nat → Value) (F : Nat → List Int) (e : Ending) (w' : World) : Prop := e = .returned (.tuple #[.int .i64 k, .int .i64 0]) ∧ PGo w B g vs F w'
theorem pr_out {w w3 w1 : World} {B g k c : Nat} {A : Option Addr} {ys : List Int} {vs : Nat → Value} {F : Nat → List Int} (h : PSt w B g vs F) (hb : Below w.heap.size w w3) (h3 : PSt w3 B g vs F) (hk : k < 8) {ol : Nat} (hvv : vs k = .slice A ol c)
    (hr : Row w1 B 3 1 (.slice A ys.length c) ys.length (ys.map (Value.int .i64))) (hf : Fr (fun k => (Value.slice A 0 0).ownBlock = some k) w3.drew w1) :
    ArrGo w B g 123 8 vs [.int .u32 (maskF F)] [] (updV F k ys) (w1.setCell ⟨g, 1 + k, none⟩ (.slice A ys.length c)) := by
  have hf' : Fr (fun j => (vs k).ownBlock = some j) w3 w1 := by
    refine ((((Fr.refl (fun j => (vs k).ownBlock = some j) w3)).drew).trans hf (fun j _ hj => ?_))
    rw [hvv, ← hj]; exact pr_own
  refine ArrGo.trans ((Fr.of_grow hb).mono (fun _ _ h => h.elim)) (fun k hk => .inl hk) (ArrGo.put h3 hk hf' hr (fun j hj => .inl ?_))
  rw [hvv, ← hj]; exact pr_own
theorem ArrGo.set_hd {w w1 : World} {B g N i : Nat} {t : TypeId} {vs : Nat → Value} {hd tl : List Value} {F : Nat → List Int} (h : ArrGo w B g t N vs hd tl F w1) (hi : i < hd.length) (u : Value) : ArrGo w B g t N vs (hd.set i u) tl F (w1.setCell ⟨g, i, none⟩ u) := by
  obtain ⟨vs', a1, a2, a3⟩ := h
  exact ⟨vs', a1.set_hd hi u, a2.setCell (p := ⟨g, i, none⟩) (fun _ => .inl rfl) u, a3⟩
theorem ArrGo.drewN {w w1 : World} {B g N : Nat} {t : TypeId} {vs : Nat → Value} {hd tl : List Value} {F : Nat → List Int} (h : ArrGo w B g t N vs hd tl F w1) (n : Nat) : ArrGo w B g t N vs hd tl F (w1.drewN n) := by
  obtain ⟨vs', a1, a2, a3⟩ := h
  exact ⟨vs', a1.keep ((Fr.refl Nil w1).drewN n) (fun _ _ h => h), a2.drewN n, a3⟩
theorem ArrGo.drew {w w1 : World} {B g N : Nat} {t : TypeId} {vs : Nat → Value} {hd tl : List Value} {F : Nat → List Int} (h : ArrGo w B g t N vs hd tl F w1) : ArrGo w B g t N vs hd tl F w1.drew := by
  obtain ⟨vs', a1, a2, a3⟩ := h
  exact ⟨vs', a1.keep ((Fr.refl Nil w1).drew) (fun _ _ h => h), a2.drew, a3⟩
theorem Arr.drew {w : World} {B g N : Nat} {t : TypeId} {hd tl : List Value} {vs : Nat → Value} {F : Nat → List Int} (h : Arr w B g t hd N tl vs F) : Arr w.drew B g t hd N tl vs F := h.keep ((Fr.refl Nil w).drew) (fun _ _ h => h)
set_option maxHeartbeats 1000000 in
set_option maxRecDepth 100000 in
theorem out_any (g k : Nat) (t : Int) (vs : Nat → Value) (F : Nat → List Int) (w : World) (B : Nat) (h : PSt w B g vs F) (hk : k < 8) (hm : ofI F t = k) :
    Calls Try.prog 24 #[.pointer (some ⟨g, 0, none⟩), .int .i64 t] w (OutPost w B g k vs (updV F k (without (F k) t))) := by
  have hmf : ∀ fn first cap w, (Instr.makeFunc fn first cap).run Try.prog w = .ok (.func fn first cap) w := fun _ _ _ _ => rfl
  have hb : Below w.heap.size w (w.alloc (.cells #[.int .i64 t] 3)) := (Below.refl _ _).alloc (Nat.le_refl _) _
  have hq0 : (w.alloc (.cells #[.int .i64 t] 3)).cell? ⟨w.heap.size, 0, none⟩ = some (.int .i64 t) := (Blk.new w #[.int .i64 t] 3).cell 0
  have HA := Lib.hid (at83 g t F (w.alloc (.cells #[.int .i64 t] 3)) (h.rd.grow hb))
  have HB := Lib.hid hb
  rw [hm] at HA
  have hgl : g < w.heap.size := h.blk.lt
  have hov := (h.row k hk).lt
  have d1 : decide ((k : Int) < 0) = false := by simp
  clear hm hb
  go_enter Try.func24, Try.ntmps24
  go_wp2_with fail
  refine HA.out.mono ?_
  rintro e w3 ⟨rfl, hb3⟩
  have hq3 : w3.cell? ⟨w.heap.size, 0, none⟩ = some (.int .i64 t) := (hb3.cell (p := ⟨w.heap.size, 0, none⟩) (by simp)).trans hq0
  have hbw := HB.out.trans (hb3.mono HB.out.size)
  have h3 : PSt w3 B g vs F := Arr.grow h hbw
  have hc0 := h3.bits
  have hcv := Arr.cell h3 hk
  obtain ⟨A, c, hvv, hc1, hc2⟩ := (h3.row k hk).shape
  have hrow := h3.row k hk
  rw [hvv] at hcv hrow hov
  rw [show ([Value.int .u32 (maskF F)].length) = 1 from rfl] at hcv
  have hlt := h3.blk.lt
  have hk8 : (k : Int) < 8 := by omega
  have hk0 : (0 : Int) ≤ k := by omega
  have HD := Lib.hid (deleteFunc86 w.heap.size t A _ c (F k) w3.drew B hrow.drew hq3 (fun e => by have := (hov _ e).2; omega))
  have HP := Lib.hid (fun w1 ys => pr_out (w1 := w1) (ys := ys) h hbw h3 hk hvv)
  have HP2 := Lib.hid (fun w1 (hf : Fr (fun j => (Value.slice A 0 0).ownBlock = some j) w3.drew w1) => Arr.app (Arr.drew h3) hk (hf.mono (S' := fun j => (vs k).ownBlock = some j) (fun j _ hj => by rw [hvv, ← hj]; exact pr_own)))
  unfold DelFPost at HD
  have HV := Lib.hid hvv
  have HMU := Lib.hid (mask_upd (F := F) (v := k) (xs := without (F k) t))
  have HMS := Lib.hid (mask_same (F := F) (v := k) (xs := without (F k) t))
  have hsub : Hid (0 < (without (F k) t).length → full F k = true) := Lib.hid (fun h' => by
    unfold full; unfold without at h'
    have := List.length_filter_le (· != t) (F k)
    simp; omega)
  generalize (F k).length = ol at *
  generalize hYS : without (F k) t = ys at *
  clear hYS hb3 hq0 hq3 hrow hov
  go_wp2
  go_region_with (go_at_call 85; refine HD.out.mono ?_; rintro e w1 ⟨rfl, hr1, hf1⟩; have hgo := HP.out w1 ys hr1 hf1; obtain ⟨ka, kb, kc, kd⟩ := HP2.out w1 hf1; have k0 : w1.cell? ⟨g, 0, none⟩ = some (.int .u32 (maskF F)) := kd 0; have kb0 := kb 0; have kb1 := kb (1 + k); have ka1 : w1.cell? ⟨g, 1 + k, none⟩ = some (.slice A ol c) := ka.trans (congrArg some HV.out); clear kd ka)
  all_goals
    by_cases hy : ys.length = 0
    · have hq : ((ys.length : Int) == 0) = true := by rw [hy]; rfl
      have e0 : bits .andNot .u32 (maskF F) (2 ^ k % 4294967296) = maskF (updV F k ys) := by
        rw [HMU.out, decide_eq_false (show ¬ 0 < ys.length by omega)]; exact andNot_mask (full F) hk
      have E0 := Lib.hid e0
      clear hy e0
      have HGO := Lib.hid hgo
      generalize ys.length = yl at *
      go_wp2
      go_region
      all_goals
        go_wp2
        go_ret2
        rw [E0.out]
        exact ⟨rfl, by first | exact (HGO.out.set_hd (i := 0) (by simp) _).drew.drew | exact (HGO.out.drew.set_hd (i := 0) (by simp) _).drew | exact (HGO.out.set_hd (i := 0) (by simp) _).drew⟩
    · have hq : ((ys.length : Int) == 0) = false := beq_false_of_ne (by omega)
      have e0 : maskF (updV F k ys) = maskF F := HMS.out (by rw [hsub.out (by omega), decide_eq_true (show 0 < ys.length by omega)])
      have E0 := Lib.hid e0
      clear hy e0
      have HGO := Lib.hid hgo
      generalize ys.length = yl at *
      go_wp2
      go_ret2
      exact ⟨rfl, by unfold PGo; rw [E0.out]; first | exact HGO.out.drew | exact HGO.out⟩
end Go.Proofs.Ytenhcpobncmedaa
