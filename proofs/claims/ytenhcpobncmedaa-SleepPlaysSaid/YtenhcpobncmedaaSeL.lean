/- Locks that are slept for: contract of Free. -/
import Derived.Test.YtenhcpobncmedaaSeK
namespace Go.Proofs.Ytenhcpobncmedaa
open Go.RowKit Go.Maps
set_option maxHeartbeats 400000
set_option linter.unusedVariables false
set_option linter.unusedSimpArgs false
def freeE (s : LkS) (t k : Int) : Int := if isE s t k ≠ 0 then isE s t k else if s.O k.toNat ≠ t ∨ (wfor s.F t).isSome = true then 8 else 0
def freeV (s : LkS) (t k : Int) : Int := if freeE s t k ≠ 0 then 0 else nextI (eff s) (s.F k.toNat) (s.F k.toNat).length
/-- A lock is handed on. -/
def passS (s : LkS) (k : Nat) (nx : Int) : LkS := ⟨s.P, updV s.O k nx, fun i => (s.F i).filter (· != nx)⟩
def freeS (s : LkS) (t k : Int) : LkS := if freeE s t k ≠ 0 then s else passS s k.toNat (freeV s t k)
theorem filter0 {s : LkS} (hs : LkOk s) : ∀ i, i < 16 → (s.F i).filter (· != 0) = s.F i := fun i hi => filter_absent (fun h0 => by
  have := hs.task (hs.mem i hi 0 h0).1
  omega)
section
variable {w : World} {B g bp np bf nf : Nat} {vs : Nat → Value} {s : LkS}
def FreePost (w : World) (B g bp bf np nf : Nat) (vs : Nat → Value) (v er : Int) (s' : LkS) (e : Ending) (w' : World) : Prop := e = .returned (.tuple #[.int .i64 v, .int .i64 er]) ∧ ∃ np' nf', np' ≤ np + 1 ∧ nf' ≤ nf + 1 ∧ LkPGo w B g bp bf vs np' nf' s' w'
theorem FreePost.same {v er : Int} {w' : World} (h : LkP w B g bp np bf nf vs s) (hb : Below w.heap.size w w') : FreePost w B g bp bf np nf vs v er s (.returned (.tuple #[.int .i64 v, .int .i64 er])) w' := ⟨rfl, np, nf, by omega, by omega, .same h hb⟩
theorem LkP.free0 (hs : LkOk s) (h : LkP w B g bp np bf nf vs s) {k : Nat} (hk : k < 16) : LkPGo w B g bp bf vs np nf (passS s k 0) (w.setCell ⟨g, 1 + k, none⟩ (.int .i64 0)) :=
  (h.setO hk 0).congr rfl rfl (fun i hi => (filter0 hs i hi).symm)
theorem LkP.free1 (hs : LkOk s) (h : LkP w B g bp np bf nf vs s) {w1 : World} {k : Nat} {v : Value} {b : Nat} (hk : k < 16) (hb : b < (s.F k).length) (hf' : Fr (fun j => (vs k).ownBlock = some j) w w1) (hr' : Row w1 B 3 1 v ((s.F k).length - 1) (((s.F k).map (Value.int .i64)).eraseIdx b))
    (ho' : ∀ j, v.ownBlock = some j → (vs k).ownBlock = some j ∨ w.heap.size ≤ j) {W : World} (hW : Fr Nil (w1.setCell ⟨g, 17 + k, none⟩ v) W) (hWs : W.heap.size = w1.heap.size) :
    W.cell? ⟨g, 33, none⟩ = some (.map (some bf)) ∧ ∃ w2, (∀ ty, (Builtin.delete_ #[78, 3] ty #[.map (some bf), .int .i64 ((s.F k).getD b 0)]).run Try.prog W = .ok (.tuple #[]) w2) ∧
      (∀ j, w2.frozen? ⟨g, j, none⟩ = false) ∧ g < w2.heap.size ∧ (∃ o, w2.cell? ⟨g, 1 + k, none⟩ = some (.int .i64 o)) ∧ LkPGo w B g bp bf vs np nf (passS s k ((s.F k).getD b 0)) (w2.setCell ⟨g, 1 + k, none⟩ (.int .i64 ((s.F k).getD b 0))) := by
  have hx := getD_mem hb
  have hxt := hs.task (hs.mem k hk _ hx).1
  have e : (s.F k).filter (· != (s.F k).getD b 0) = (s.F k).eraseIdx b := by rw [filter_at (hs.nd k hk) hb, eraseIdx_parts]
  have el : ((s.F k).eraseIdx b).length = (s.F k).length - 1 := List.length_eraseIdx_of_lt hb
  have em : ((s.F k).map (Value.int .i64)).eraseIdx b = ((s.F k).eraseIdx b).map (Value.int .i64) := by rw [← eraseIdx_parts, ← eraseIdx_parts]; simp
  have hfor : forM (updV s.F k ((s.F k).eraseIdx b)) = fun z => if z = (s.F k).getD b 0 then none else forM s.F z := by
    rw [← forM_rem]
    refine (forM_congr (fun i hi => ?_)).symm
    rw [hs.without hk hx i hi, e]
  have hw0 := hs.without hk hx
  generalize (s.F k).getD b 0 = nx at *
  obtain ⟨h33, w2, hrun, hgo⟩ := h.rem hk hf' (xs' := (s.F k).eraseIdx b) (by rw [el, ← em]; exact hr') ho' (task_wf hxt.1 hxt.2) hfor hW hWs
  obtain ⟨q1, q2, q3⟩ := hgo.at_
  exact ⟨h33, w2, hrun, q1, q2, ⟨_, q3.ho k hk⟩, (hgo.step (fun vs1 h1 => h1.setO hk nx)).congr rfl rfl (fun i hi => by rw [← e]; exact (hw0 i hi).symm)⟩
set_option maxHeartbeats 2000000 in
set_option maxRecDepth 100000 in
theorem free57 (hs : LkOk s) (h : LkP w B g bp np bf nf vs s) (hB : B ≤ w.heap.size) (t k : Int) (ht : (Lit.int .i64 t).wf = true) (hnp : nf ≤ 10000000000000) :
    Calls Try.prog 57 #[.pointer (some ⟨g, 0, none⟩), .int .i64 t, .int .i64 k] w (FreePost w B g bp bf np nf vs (freeV s t k) (freeE s t k) (freeS s t k)) := by
  have HS := Lib.hid (fun v er => FreePost.same (v := v) (er := er) h (Below.refl _ w))
  have HI := Lib.hid (is116 h.rd.toLkR t k ht)
  by_cases hi : isE s t k = 0
  · obtain ⟨hk0, hk16, hP⟩ := isE_zero hi
    obtain ⟨kn, rfl⟩ : ∃ kn : Nat, k = kn := ⟨k.toNat, by omega⟩
    have hkn : kn < 16 := by omega
    have HI0 := Lib.hid hi
    rw [hi] at HI
    have hf0 := h.rd.hf
    have ho0 := h.rd.ho kn hkn
    have HW := Lib.hid (waits117 h.rd t ht)
    clear hi
    by_cases ho : s.O kn = t
    · have d0 : (s.O kn != t) = false := by simpa using ho
      rw [ho] at ho0 d0
      cases hw : (wfor s.F t).isSome with
      | true =>
        have e0 : freeE s t kn = 8 := by simp [freeE, HI0.out, hw]
        have e1 : freeV s t kn = 0 := by simp [freeV, e0]
        have e2 : freeS s t kn = s := by simp [freeS, e0]
        rw [e0, e1, e2]
        rw [hw] at HW
        clear hw h e0 e1 e2
        go_enter Try.func57, Try.ntmps57
        go_wp2_with fail
        refine HI.out.mono ?_
        rintro e w' ⟨rfl, rfl⟩
        go_wp2_with fail
        refine HW.out.mono ?_
        rintro e w' ⟨rfl, rfl⟩
        go_wp2
        go_ret2
        exact HS.out 0 8
      | false =>
        have e0 : freeE s t kn = 0 := by simp [freeE, HI0.out, hw, ho]
        have e1 : freeV s t kn = nextI (eff s) (s.F kn) (s.F kn).length := by simp [freeV, e0]
        have e2 : freeS s t kn = passS s kn (nextI (eff s) (s.F kn) (s.F kn).length) := by simp [freeS, e0, e1]
        rw [e0, e1, e2]
        rw [hw] at HW
        obtain ⟨L, hL⟩ := hs.ord
        obtain ⟨A, c, hvv, hc1, hc2⟩ := (h.m.arr.row kn hkn).shape
        have hrow := h.m.arr.row kn hkn
        have hcv := h.m.arr.cell hkn
        rw [hdO_len] at hcv
        rw [hvv] at hcv hrow
        have HRD := Lib.hid (RD.of_row hrow)
        have HRW := Lib.hid hrow
        have HCV := Lib.hid hcv
        have hln := hs.len hkn
        have HEF := Lib.hid (fun wr (hb : Below w.heap.size w wr) x (hx : x ∈ s.F kn) => eff_yes hs hL 16 wr x (h.rd.toLkR.grow hb) (hs.mem kn hkn x hx).1 (hL.lt (hs.task (hs.mem kn hkn x hx).1).1 (hs.task (hs.mem kn hkn x hx).1).2))
        have HPK := Lib.hid (fun j => pick_round (E := eff s) (xs := s.F kn) (j := j) (fun x => (eff_rng hs x).1))
        have HGM := Lib.hid (fun j (hj : j < (s.F kn).length) => getD_mem hj)
        have HER := Lib.hid (fun x => eff_rng hs x)
        have HG := Lib.hid (fun wr (hb : Below w.heap.size w wr) => h.grow hb)
        have HV := Lib.hid hvv
        have HLN := Lib.hid (rfl : (s.F kn).length = (s.F kn).length)
        have HT0 := Lib.hid hs
        clear hw e0 e1 e2 hvv hrow h ho hs
        generalize hxs : s.F kn = xs at *
        have HXS := Lib.hid hxs
        clear hxs
        generalize hm : xs.length = m at *
        have HM := Lib.hid hm
        clear hm
        go_enter Try.func57, Try.ntmps57
        go_wp2_with fail
        refine HI.out.mono ?_
        rintro e w' ⟨rfl, rfl⟩
        go_wp2_with fail
        refine HW.out.mono ?_
        rintro e w' ⟨rfl, rfl⟩
        go_wp2
        clear hcv
        go_loopw [9, 10, 43] (fun bv mv i wr => ∃ j : Nat, j ≤ m ∧ i = .int .i64 j ∧ bv = .int .i64 (bestI (eff s) xs j) ∧ mv = .int .i64 (mostI (eff s) xs j) ∧ Below w.heap.size w wr) (fun _ _ i _ => m - (intOf i).toNat)
        case atStart => exact ⟨0, by omega, rfl, rfl, rfl, Below.refl _ _⟩
        case round =>
          obtain ⟨j, hj, rfl, rfl, rfl, hbw⟩ := hrel
          have HBW := Lib.hid hbw
          by_cases hjm : j < m
          · obtain ⟨b, of, rfl, hb, hcj⟩ := (HRD.out.below' hbw (Nat.le_refl _)).at_ hjm
            have hjn : (j : Int) < m := by omega
            have HC := Lib.hid (HEF.out wr hbw _ (HGM.out j hjm))
            have HP := HPK.out j
            have HP1 := Lib.hid HP.1
            have HP2 := Lib.hid HP.2
            clear HP hbw
            generalize xs.getD j 0 = x at *
            generalize eff s x = ex at *
            generalize bestI (eff s) xs j = bb at *
            generalize mostI (eff s) xs j = mm at *
            by_cases hgt : mm < ex
            · have HQ := Lib.hid (HP1.out hgt)
              go_wp2_with fail
              refine HC.out.mono ?_
              rintro e w3 ⟨rfl, hb3⟩
              have HB3 := Lib.hid hb3
              clear hb3
              go_wp2
              go_roundw
              case rel => exact ⟨j + 1, by omega, by go_num, by rw [HQ.out.1], by rw [HQ.out.2.1], HBW.out.trans (HB3.out.mono HBW.out.size)⟩
              case measure => simp [intOf]; omega
            · have HQ := Lib.hid (HP2.out (by omega))
              go_wp2_with fail
              refine HC.out.mono ?_
              rintro e w3 ⟨rfl, hb3⟩
              have HB3 := Lib.hid hb3
              clear hb3
              go_wp2
              go_roundw
              case rel => exact ⟨j + 1, by omega, by go_num, by rw [HQ.out.1], by rw [HQ.out.2.1], HBW.out.trans (HB3.out.mono HBW.out.size)⟩
              case measure => simp [intOf]; omega
          · obtain rfl : j = m := by omega
            have hwr := HG.out wr hbw
            have hfz := hwr.m.arr.blk.free
            have hgl := hwr.m.arr.blk.lt
            have hok := hwr.rd.ho kn hkn
            by_cases hm0 : j = 0
            · subst hm0
              have e3 : bestI (eff s) xs 0 = -1 := rfl
              have e4 : nextI (eff s) xs 0 = 0 := rfl
              rw [e3, e4]
              have HGO := Lib.hid ((hwr.free0 HT0.out hkn).of_grow hbw)
              clear e3 e4 hbw hwr
              go_wp2
              go_ret2
              exact ⟨rfl, np, nf, by omega, by omega, HGO.out⟩
            · have hbl := pickN_lt (E := eff s) (xs := xs) (j := j) (by omega)
              have e3 : bestI (eff s) xs j = pickN (eff s) xs j := if_neg hm0
              have e4 : nextI (eff s) xs j = xs.getD (pickN (eff s) xs j) 0 := if_neg hm0
              rw [e3]
              generalize pickN (eff s) xs j = bi at *
              obtain ⟨gb, ob, rfl, hgb, hcx⟩ := (HRD.out.below' hbw (Nat.le_refl _)).at_ hbl
              have hcv := (hbw.cell (p := ⟨g, 17 + kn, none⟩) (pr_lt_cell HCV.out)).trans HCV.out
              have hroww := HRW.out.grow hbw
              have hc9 : c ≤ 9223372036854775807 := by unfold maxLen at hc2; exact hc2
              have HD := Lib.hid (delete_any gb ob j c bi (xs.map (Value.int .i64)) wr.drew B hroww.drew (int_oneCell xs) hbl ⟨hc1, hc9⟩)
              have HAP := Lib.hid (fun w1 (hf : Fr (fun j => j = gb) wr.drew w1) => Arr.app (w1 := w1) (hwr.m.arr.keep ((Fr.refl Nil _).drew) (fun _ _ h => h)) hkn (hf.mono (S' := fun j => (vs kn).ownBlock = some j) (fun j _ hj => by rw [HV.out, hj]; rfl)))
              have HFIN : Hid (∀ (w1 : World), Fr (fun j => j = gb) wr.drew w1 → Row w1 B 3 1 (.slice (some ⟨gb, ob, none⟩) (j - 1) c) (j - 1) ((xs.map (Value.int .i64)).eraseIdx bi) → ∀ W, Fr Nil (w1.setCell ⟨g, 17 + kn, none⟩ (.slice (some ⟨gb, ob, none⟩) (j - 1) c)) W → W.heap.size = w1.heap.size →
                  W.cell? ⟨g, 33, none⟩ = some (.map (some bf)) ∧ ∃ w2, (∀ ty, (Builtin.delete_ #[78, 3] ty #[.map (some bf), .int .i64 (xs.getD bi 0)]).run Try.prog W = .ok (.tuple #[]) w2) ∧
                  (∀ j, w2.frozen? ⟨g, j, none⟩ = false) ∧ g < w2.heap.size ∧ (∃ o, w2.cell? ⟨g, 1 + kn, none⟩ = some (.int .i64 o)) ∧ LkPGo w B g bp bf vs np nf (passS s kn (xs.getD bi 0)) (w2.setCell ⟨g, 1 + kn, none⟩ (.int .i64 (xs.getD bi 0)))) := Lib.hid (fun w1 hf hr W hW hWs => by
                have hx := HXS.out
                have hl := HM.out
                subst hx
                subst hl
                have hf2 : Fr (fun j => (vs kn).ownBlock = some j) wr w1 := (((Fr.refl Nil wr).drew).mono (fun _ _ h => h.elim)).trans (hf.mono (S' := fun j => (vs kn).ownBlock = some j) (fun j _ hj => by rw [HV.out, hj]; rfl)) (fun _ _ h => h)
                obtain ⟨f1, w2, f2, f3, f4, f5, f6⟩ := hwr.free1 HT0.out hkn hbl hf2 hr (fun j hj => .inl (by rw [HV.out]; exact hj)) hW hWs
                exact ⟨f1, w2, f2, f3, f4, f5, f6.of_grow hbw⟩)
              have hwp : IntKind.i64.wrap ((bi : Int) + 1) = (bi : Int) + 1 := by unfold IntKind.wrap; simp [IntKind.bits, IntKind.signed]; omega
              clear hroww hwr hbw hok hgb e3
              generalize xs.getD bi 0 = nx at *
              have E4 := Lib.hid e4
              clear e4
              go_wp2
              go_region_with (go_at_call 119; refine HD.out.mono ?_; rintro e w1 ⟨rfl, hr1, hf1⟩; obtain ⟨ka, kb, kc, kd⟩ := HAP.out w1 hf1; have ka1 : w1.cell? ⟨g, 17 + kn, none⟩ = some (.slice (some ⟨gb, ob, none⟩) j c) := (by rw [hdO_len] at ka; exact ka.trans (congrArg some HV.out)); clear kd ka)
              all_goals
                first
                | (obtain ⟨h33, w2, hup, q1, q2, ⟨o2, q3⟩, hgo⟩ := HFIN.out w1 hf1 hr1 _ (Fr.refl _ _) (by simp)
                   have HGO := Lib.hid hgo
                   clear hgo ka1 kb kc hr1 hf1
                   generalize w1.setCell ⟨g, 17 + kn, none⟩ (.slice (some ⟨gb, ob, none⟩) (j - 1) c) = W at *
                   go_wp2
                   go_ret2
                   rw [E4.out]
                   exact ⟨rfl, np, nf, by omega, by omega, HGO.out⟩)
                | (obtain ⟨h33, w2, hup, q1, q2, ⟨o2, q3⟩, hgo⟩ := HFIN.out w1 hf1 hr1 _ ((Fr.refl _ _).drew) (by simp)
                   have HGO := Lib.hid hgo
                   clear hgo ka1 kb kc hr1 hf1
                   generalize (w1.setCell ⟨g, 17 + kn, none⟩ (.slice (some ⟨gb, ob, none⟩) (j - 1) c)).drew = W at *
                   go_wp2
                   go_ret2
                   rw [E4.out]
                   exact ⟨rfl, np, nf, by omega, by omega, HGO.out⟩)
    · have e0 : freeE s t kn = 8 := by simp [freeE, HI0.out, ho]
      have e1 : freeV s t kn = 0 := by simp [freeV, e0]
      have e2 : freeS s t kn = s := by simp [freeS, e0]
      rw [e0, e1, e2]
      have d0 : (s.O kn != t) = true := by simpa using ho
      generalize s.O kn = o at *
      clear h e0 e1 e2 ho
      go_enter Try.func57, Try.ntmps57
      go_wp2_with fail
      refine HI.out.mono ?_
      rintro e w' ⟨rfl, rfl⟩
      go_wp2
      go_ret2
      exact HS.out 0 8
  · have e1 : freeE s t k = isE s t k := if_pos hi
    have e0 : freeV s t k = 0 := if_pos (by rw [e1]; exact hi)
    have e2 : freeS s t k = s := if_pos (by rw [e1]; exact hi)
    rw [e0, e1, e2]
    have d1 : (isE s t k != 0) = true := by simpa using hi
    generalize isE s t k = er at *
    clear e0 e1 e2 hi h
    go_enter Try.func57, Try.ntmps57
    go_wp2_with fail
    refine HI.out.mono ?_
    rintro e w' ⟨rfl, rfl⟩
    go_wp2
    go_ret2
    exact HS.out 0 er
end
end Go.Proofs.Ytenhcpobncmedaa
