/- Locks that are slept for: contract of Take. -/
import Derived.Test.YtenhcpobncmedaaSeI
namespace Go.Proofs.Ytenhcpobncmedaa
open Go.RowKit Go.Maps
set_option maxHeartbeats 400000
set_option linter.unusedVariables false
set_option linter.unusedSimpArgs false
theorem isE_zero {s : LkS} {t k : Int} (h : isE s t k = 0) : 0 ≤ k ∧ k < 16 ∧ (s.P t).isSome = true := by
  unfold isE at h
  split at h
  · cases h
  · split at h
    · rename_i h1 h2; exact ⟨by omega, by omega, h2⟩
    · cases h
open Classical in
noncomputable def takeE (s : LkS) (t k : Int) : Int := if isE s t k ≠ 0 then isE s t k else if (wfor s.F t).isSome = true then 8 else if s.O k.toNat = 0 then 0 else if Reach s (s.O k.toNat) t then 18 else 9
open Classical in
noncomputable def takeS (s : LkS) (t k : Int) : LkS := if isE s t k ≠ 0 then s else if (wfor s.F t).isSome = true then s else if s.O k.toNat = 0 then ⟨s.P, updV s.O k.toNat t, s.F⟩ else if Reach s (s.O k.toNat) t then s else ⟨s.P, s.O, updV s.F k.toNat (s.F k.toNat ++ [t])⟩
/-- The chain of who waits for whom. -/
def ChAt (s : LkS) (t : Int) (R : Prop) (x : Int) : Prop := x ≠ 0 ∧ (s.P x).isSome = true ∧ (R ↔ Reach s x t)
theorem ch_next {s : LkS} {L : List Int} (hs : LkOk s) (hL : Ord s L) {t : Int} {R : Prop} {x : Int} {n : Nat} (h : ChAt s t R x) (hxt : x ≠ t) (hw : wfor s.F x = some n) : n < 16 ∧ ChAt s t R (s.O n) ∧ L.idxOf x < L.idxOf (s.O n) ∧ L.idxOf x < 16 := by
  obtain ⟨hn, hx⟩ := wfor_some hw
  have h0 := (hs.mem n hn x hx).2
  have htask := hs.task h.2.1
  refine ⟨hn, ⟨h0, hs.own n hn h0, ?_⟩, hL.up hn hx, hL.lt htask.1 htask.2⟩
  rw [h.2.2, Reach.some hs hw]
  exact ⟨fun h => h.resolve_left hxt, .inr⟩
theorem ch_end {s : LkS} {t : Int} {R : Prop} {x : Int} (h : ChAt s t R x) (hxt : x ≠ t) (hw : wfor s.F x = none) : ¬ R := fun hr => hxt ((Reach.none hw).1 (h.2.2.1 hr))
theorem forM_some {F : Nat → List Int} {t : Int} {n : Nat} (h : wfor F t = some n) : forM F t = some (n : Int) := by unfold forM; rw [h]; rfl
theorem forM_none {F : Nat → List Int} {t : Int} (h : wfor F t = none) : forM F t = none := by unfold forM; rw [h]; rfl
/-- A task that waits for nothing comes into row k. -/
theorem forM_app {F : Nat → List Int} {t : Int} {k : Nat} (hk : k < 16) (hw : wfor F t = none) : forM (updV F k (F k ++ [t])) = fun z => if z = t then some (k : Int) else forM F z := by
  have hno := wfor_none.1 hw
  funext z
  by_cases hz : z = t
  · subst hz
    rw [if_pos rfl]
    refine forM_some (wfor_at hk (by rw [updV_same]; simp) (fun j hj => ?_))
    rw [updV_other _ (by omega)]
    simpa using hno j (by omega)
  · rw [if_neg hz]
    have : wfor (updV F k (F k ++ [t])) z = wfor F z := by
      unfold wfor
      congr 1
      funext i
      by_cases hi : i = k
      · subst hi; rw [updV_same]; simp [hz]
      · rw [updV_other _ hi]
    unfold forM; rw [this]
section
variable {w : World} {B g bp np bf nf : Nat} {vs : Nat → Value} {s : LkS}
/-- Row k is another one now, and the map of who waits too. -/
theorem LkP.put (h : LkP w B g bp np bf nf vs s) {w1 w2 W : World} {k nf' : Nat} (hk : k < 16) {v : Value} {xs : List Int} (hf : Fr (fun j => (vs k).ownBlock = some j) w w1) (hr : Row w1 B 3 1 v xs.length (xs.map (Value.int .i64)))
    (ho : ∀ j, v.ownBlock = some j → (vs k).ownBlock = some j ∨ w.heap.size ≤ j) (hW : Below W.heap.size (w1.setCell ⟨g, 17 + k, none⟩ v) W) (hWs : W.heap.size = w1.heap.size) (hg : W.grownBy w2 (some bf)) (hI : IntMap Try.prog w2 3 3 bf nf' (forM (updV s.F k xs))) :
    LkPGo w B g bp bf vs np nf' ⟨s.P, s.O, updV s.F k xs⟩ w2 := by
  have hm := h.m.put hk hf hr ho
  have hmf := h.m.put_fr hk (v := v) hf
  have hmo := h.m.put_own hk ho
  have hfW : Fr Nil (w1.setCell ⟨g, 17 + k, none⟩ v) W := Fr.of_grow (by
    have : (w1.setCell ⟨g, 17 + k, none⟩ v).heap.size = W.heap.size := by simp [hWs]
    rw [this]; exact hW)
  have hmW := hm.keep hfW (fun _ _ h => h)
  have hg' := Fr.of_grown hg
  have hne : ∀ i, i < 16 → (updV vs k v i).ownBlock ≠ some bf := fun i hi e => by
    by_cases hik : i = k
    · subst hik
      rw [updV_same] at e
      rcases ho bf e with h1 | h1
      · exact h.fnr i hi h1
      · have := h.for_.lt; omega
    · rw [updV_other _ hik] at e; exact h.fnr i hi e
  refine ⟨updV vs k v, ⟨hmW.keep hg' (fun j hj e => ?_), hI, h.fne, h.fnp, hne, h.flow⟩, ?_, fun j hj => ?_⟩
  · injection e with e
    subst e
    rcases hj with (hj | ⟨i, hi, hj⟩) | hj
    · exact h.fne hj
    · exact hne i hi hj
    · exact h.fnp hj
  · refine ((hmf.mono (S' := LkPF g bp bf vs) (fun j _ hj => .inl hj)).trans (hfW.mono (S' := LkPF g bp bf vs) (fun _ _ h => h.elim)) (fun _ _ h => h)).trans (hg'.mono (S' := LkPF g bp bf vs) (fun j _ e => ?_)) (fun _ _ h => h)
    injection e with e; exact .inr e.symm
  · rcases hj with hj | hj
    · rcases hmo j hj with h1 | h1
      · exact .inl (.inl h1)
      · exact .inr h1
    · exact .inl (.inr hj)
/-- Behind the append: the map's update, and what it leaves. -/
theorem LkP.app (h : LkP w B g bp np bf nf vs s) {w1 : World} {k ol c c1 : Nat} {A A1 : Option Addr} {t : Int} (hk : k < 16) (hvv : vs k = .slice A ol c) (hol : (s.F k).length = ol) (hf : Fr (fun j => (Value.slice A ol c).ownBlock = some j) w w1)
    (hr : Row w1 B 3 1 (.slice A1 (ol + 1) c1) (ol + 1) ((s.F k).map (Value.int .i64) ++ [.int .i64 t])) (ho : ∀ j, (Value.slice A1 (ol + 1) c1).ownBlock = some j → (Value.slice A ol c).ownBlock = some j ∨ w.heap.size ≤ j)
    (hno : wfor s.F t = none) (htw : (Lit.int .i64 t).wf = true) (hnf : nf ≤ 10000000000000) {W : World} (hW : W = w1.setCell ⟨g, 17 + k, none⟩ (.slice A1 (ol + 1) c1) ∨ W = (w1.setCell ⟨g, 17 + k, none⟩ (.slice A1 (ol + 1) c1)).drew) :
    W.cell? ⟨g, 33, none⟩ = some (.map (some bf)) ∧ ∃ w2, (Instr.mapUpdate 78 (.map (some bf)) (.int .i64 t) (.int .i64 (k : Int))).run Try.prog W = .ok () w2 ∧ LkPGo w B g bp bf vs np (nf + 1) ⟨s.P, s.O, updV s.F k (s.F k ++ [t])⟩ w2 := by
  have ho' : ∀ j, (Value.slice A1 (ol + 1) c1).ownBlock = some j → (vs k).ownBlock = some j ∨ w.heap.size ≤ j := fun j hj => by
    rw [hvv]; exact ho j hj
  have hr' : Row w1 B 3 1 (.slice A1 (ol + 1) c1) (s.F k ++ [t]).length ((s.F k ++ [t]).map (Value.int .i64)) := by
    have e : (s.F k ++ [t]).length = ol + 1 := by simp [hol]
    rw [e]; simpa using hr
  have hf' : Fr (fun j => (vs k).ownBlock = some j) w w1 := by rw [hvv]; exact hf
  have hm := h.m.put hk hf' hr' ho'
  have hWX : Below W.heap.size (w1.setCell ⟨g, 17 + k, none⟩ (.slice A1 (ol + 1) c1)) W ∧ W.heap.size = w1.heap.size ∧ W.cell? ⟨g, 33, none⟩ = (w1.setCell ⟨g, 17 + k, none⟩ (.slice A1 (ol + 1) c1)).cell? ⟨g, 33, none⟩ ∧ Fr Nil (w1.setCell ⟨g, 17 + k, none⟩ (.slice A1 (ol + 1) c1)) W := by
    rcases hW with rfl | rfl
    · exact ⟨Below.refl _ _, by simp, rfl, Fr.refl _ _⟩
    · exact ⟨(Below.refl _ _).drew, by simp, rfl, (Fr.refl _ _).drew⟩
  obtain ⟨hX1, hX2, hX3, hX4⟩ := hWX
  have hkw : (Lit.int .i64 (k : Int)).wf = true := by simp [Lit.wf, IntKind.min, IntKind.max, IntKind.signed, IntKind.bits]; omega
  have hI1 : IntMap Try.prog (w1.setCell ⟨g, 17 + k, none⟩ (.slice A1 (ol + 1) c1)) 3 3 bf nf (forM s.F) :=
    (h.for_.fr hf' (h.fnr k hk)).fr ((Fr.refl (fun j => j = g) w1).setCell (p := ⟨g, 17 + k, none⟩) (fun _ => rfl) _) h.fne
  obtain ⟨w2, hup, hI2, hg2⟩ := (hI1.fr hX4 (fun h => h)).update Try.underlying3 Try.underlying3 Try.underlying78 (by unfold maxLen; omega) htw hkw
  refine ⟨?_, w2, hup, h.put hk hf' hr' ho' hX1 hX2 hg2 ?_⟩
  · rw [hX3]
    refine (hm.arr.blk.cell 33).trans ?_
    have := arrC_tl (hdO bp s.O) (N := 16) (i := 0) (updV vs k (.slice A1 (ol + 1) c1)) [.map (some bf)]
    rw [hdO_len] at this
    exact this
  · rw [forM_app hk hno]; exact hI2
set_option maxHeartbeats 1000000 in
set_option maxRecDepth 100000 in
theorem take53 (hs : LkOk s) (h : LkP w B g bp np bf nf vs s) (hB : B ≤ w.heap.size) (t k : Int) (ht : (Lit.int .i64 t).wf = true) (hnp : nf ≤ 10000000000000) :
    Calls Try.prog 53 #[.pointer (some ⟨g, 0, none⟩), .int .i64 t, .int .i64 k] w (TaskPost w B g bp bf np nf vs (takeE s t k) (takeS s t k)) := by
  have HS := Lib.hid (fun er => TaskPost.same (er := er) h (Below.refl _ w))
  have HI := Lib.hid (is116 h.rd.toLkR t k ht)
  by_cases hi : isE s t k = 0
  · obtain ⟨hk0, hk16, hP⟩ := isE_zero hi
    obtain ⟨kn, rfl⟩ : ∃ kn : Nat, k = kn := ⟨k.toNat, by omega⟩
    have hkn : kn < 16 := by omega
    have HI0 := Lib.hid hi
    rw [hi] at HI
    have hlf := h.rd.lookF ht
    have hf0 := h.rd.hf
    have ho0 := h.rd.ho kn hkn
    clear hi
    cases hw : wfor s.F t with
    | some n =>
      rw [forM_some hw] at hlf
      have e1 : takeE s t kn = 8 := by simp [takeE, HI0.out, hw]
      have e2 : takeS s t kn = s := by simp [takeS, HI0.out, hw]
      rw [e1, e2]
      clear hw h e1 e2
      go_enter Try.func53, Try.ntmps53
      go_wp2_with fail
      refine HI.out.mono ?_
      rintro e w' ⟨rfl, rfl⟩
      go_wp2
      go_ret
      exact HS.out 8
    | none =>
      rw [forM_none hw] at hlf
      have hfz := h.m.arr.blk.free
      have hgl := h.m.arr.blk.lt
      by_cases ho : s.O kn = 0
      · have e1 : takeE s t kn = 0 := by simp [takeE, HI0.out, hw, ho]
        have e2 : takeS s t kn = ⟨s.P, updV s.O kn t, s.F⟩ := by simp [takeS, HI0.out, hw, ho]
        rw [e1, e2]
        have HGO := Lib.hid (h.setO hkn t)
        rw [ho] at ho0
        clear hw h e1 e2 ho
        go_enter Try.func53, Try.ntmps53
        go_wp2_with fail
        refine HI.out.mono ?_
        rintro e w' ⟨rfl, rfl⟩
        go_wp2
        go_ret
        exact ⟨rfl, np, nf, by omega, by omega, HGO.out⟩
      · obtain ⟨L, hL⟩ := hs.ord
        have HQ := Lib.hid h.rd
        have HCN := Lib.hid (fun R x n hA hx hw => ch_next hs hL (t := t) (R := R) (x := x) (n := n) hA hx hw)
        have HCE := Lib.hid (fun R x hA hx hw => ch_end (s := s) (t := t) (R := R) (x := x) hA hx hw)
        have HTW := Lib.hid (fun x (hx : (s.P x).isSome = true) => task_wf (hs.task hx).1 (hs.task hx).2)
        have HA0 : Hid (ChAt s t (Reach s (s.O kn) t) (s.O kn)) := Lib.hid ⟨ho, hs.own kn hkn ho, Iff.rfl⟩
        have d0 : (s.O kn == 0) = false := by simpa using ho
        have HW := Lib.hid hw
        have HO := Lib.hid ho
        by_cases hR : Reach s (s.O kn) t
        · have e1 : takeE s t kn = 18 := by simp [takeE, HI0.out, hw, ho, hR]
          have e2 : takeS s t kn = s := by simp [takeS, HI0.out, hw, ho, hR]
          rw [e1, e2]
          have HR := Lib.hid hR
          clear hw h e1 e2 ho hR hfz
          generalize s.O kn = o at *
          go_enter Try.func53, Try.ntmps53
          go_wp2_with fail
          refine HI.out.mono ?_
          rintro e w' ⟨rfl, rfl⟩
          go_wp2
          go_loop [10] (fun i => ∃ x, i = .int .i64 x ∧ Hid (ChAt s t (Reach s o t) x)) (fun i => 16 - L.idxOf (intOf i))
          case atStart => exact ⟨o, rfl, HA0⟩
          case round =>
            obtain ⟨x, rfl, hA⟩ := hrel
            have hx0 : (x != 0) = true := by simpa using hA.out.1
            have hlx := HQ.out.lookF (HTW.out x hA.out.2.1)
            by_cases hxt : x = t
            · have d1 : (x == t) = true := by simpa using hxt
              clear hxt hlx
              go_wp2
              go_ret
              exact HS.out 18
            · have d1 : (x == t) = false := by simpa using hxt
              cases hw : wfor s.F x with
              | none => exact absurd HR.out (HCE.out _ x hA.out hxt hw)
              | some n =>
                rw [forM_some hw] at hlx
                obtain ⟨hn, hA2, hup, h16⟩ := HCN.out _ x n hA.out hxt hw
                have hon := HQ.out.toLkR.ho n hn
                have hn16 : (n : Int) < 16 := by omega
                have hn0 : (0 : Int) ≤ n := by omega
                have HA2 := Lib.hid hA2
                have HUP := Lib.hid hup
                clear hxt hw hA2 hup
                generalize s.O n = on at *
                go_wp2
                go_round
                case rel => exact ⟨on, rfl, HA2⟩
                case measure => have := HUP.out; simp [intOf]; omega
        · have e1 : takeE s t kn = 9 := by simp [takeE, HI0.out, hw, ho, hR]
          have e2 : takeS s t kn = ⟨s.P, s.O, updV s.F kn (s.F kn ++ [t])⟩ := by simp [takeS, HI0.out, hw, ho, hR]
          rw [e1, e2]
          have HR := Lib.hid hR
          obtain ⟨i0, ii, hz0, hz1, hz2⟩ := info_parts Try.infoI
          have hcv := h.m.arr.cell hkn
          rw [hdO_len] at hcv
          obtain ⟨A, c, hvv, hc1, hc2⟩ := (h.m.arr.row kn hkn).shape
          have hrow := h.m.arr.row kn hkn
          rw [hvv] at hcv hrow
          have hln := hs.len hkn
          have HUP := Lib.hid (fun w1 A1 c1 hf hr ho W hW => h.app (w1 := w1) (A1 := A1) (c1 := c1) (W := W) (t := t) hkn hvv rfl hf hr ho hw ht hnp hW)
          have HH := Lib.hid h
          have HV := Lib.hid hvv
          generalize hol : (s.F kn).length = ol at *
          clear hw h e1 e2 ho hR hvv
          generalize s.O kn = o at *
          go_enter Try.func53, Try.ntmps53
          go_wp2_with fail
          refine HI.out.mono ?_
          rintro e w' ⟨rfl, rfl⟩
          go_wp2
          go_loop [10] (fun i => ∃ x, i = .int .i64 x ∧ Hid (ChAt s t (Reach s o t) x)) (fun i => 16 - L.idxOf (intOf i))
          case atStart => exact ⟨o, rfl, HA0⟩
          case round =>
            obtain ⟨x, rfl, hA⟩ := hrel
            have hx0 : (x != 0) = true := by simpa using hA.out.1
            have hlx := HQ.out.lookF (HTW.out x hA.out.2.1)
            have hxt : x ≠ t := fun e => HR.out (hA.out.2.2.2 (e ▸ Reach.refl _))
            have d1 : (x == t) = false := by simpa using hxt
            cases hw : wfor s.F x with
            | none =>
              rw [forM_none hw] at hlx
              clear hxt hw hA
              go_wp2_with fail
              go_region_law (refine step_append_row rfl (.tmp 78) (.tmp 80) 45 rfl B 3 i0 (.int .i64 0) 1 8 Try.underlying45 ii hz0 hz1 hz2 rfl (by decide) (.slice A ol c) ol ((s.F kn).map (Value.int .i64)) (by simp [Act.eval, Act.put]) (hrow.drew.alloc _) (w.heap.size + 1) (some ⟨w.heap.size, 0, none⟩) 1 1 [.int .i64 t] (by simp [Act.eval, Act.put]) (reads_one w.drew (.int .i64 t) 3) (by simp [Value.oneCell']) (by unfold maxLen; omega) (by omega) (by simp; omega) ?_; intro A1 c1 w1 hr1 hg1 ho1; have hf1 := pr_app_fr hg1; obtain ⟨ka, kb, kc, kd⟩ := Arr.app HH.out.m.arr hkn (by rw [HV.out]; exact hf1); have ka1 : w1.cell? ⟨g, 17 + kn, none⟩ = some (.slice A ol c) := (by rw [hdO_len] at ka; exact ka.trans (congrArg some HV.out)); clear kd ka)
              all_goals
                have ho2 : ∀ j, (Value.slice A1 (ol + 1) c1).ownBlock = some j → (Value.slice A ol c).ownBlock = some j ∨ w.heap.size ≤ j := fun j hj => by
                  rcases own_cases ho1 hj with h1 | h1
                  · exact .inl h1
                  · simp at h1; exact .inr (by omega)
                first
                | (obtain ⟨h33, w2, hup, hgo⟩ := HUP.out w1 A1 c1 hf1 hr1 ho2 _ (.inl rfl)
                   have HGO := Lib.hid hgo
                   clear hgo ka1 kb kc hr1 hg1 ho1 hf1 ho2
                   generalize w1.setCell ⟨g, 17 + kn, none⟩ (.slice A1 (ol + 1) c1) = W at *
                   go_wp2
                   go_ret
                   exact ⟨rfl, np, nf + 1, by omega, by omega, HGO.out⟩)
                | (obtain ⟨h33, w2, hup, hgo⟩ := HUP.out w1 A1 c1 hf1 hr1 ho2 _ (.inr rfl)
                   have HGO := Lib.hid hgo
                   clear hgo ka1 kb kc hr1 hg1 ho1 hf1 ho2
                   generalize (w1.setCell ⟨g, 17 + kn, none⟩ (.slice A1 (ol + 1) c1)).drew = W at *
                   go_wp2
                   go_ret
                   exact ⟨rfl, np, nf + 1, by omega, by omega, HGO.out⟩)
            | some n =>
              rw [forM_some hw] at hlx
              obtain ⟨hn, hA2, hup, h16⟩ := HCN.out _ x n hA.out hxt hw
              have hon := HQ.out.toLkR.ho n hn
              have hn16 : (n : Int) < 16 := by omega
              have hn0 : (0 : Int) ≤ n := by omega
              have HA2 := Lib.hid hA2
              have HUP := Lib.hid hup
              clear hxt hw hA2 hup
              generalize s.O n = on at *
              go_wp2
              go_round
              case rel => exact ⟨on, rfl, HA2⟩
              case measure => have := HUP.out; simp [intOf]; omega
  · have e1 : takeE s t k = isE s t k := if_pos hi
    have e2 : takeS s t k = s := if_pos hi
    rw [e1, e2]
    have d1 : (isE s t k != 0) = true := by simpa using hi
    generalize isE s t k = er at *
    clear e1 e2 hi h
    go_enter Try.func53, Try.ntmps53
    go_wp2_with fail
    refine HI.out.mono ?_
    rintro e w' ⟨rfl, rfl⟩
    go_wp2
    go_ret
    exact HS.out er
end
end Go.Proofs.Ytenhcpobncmedaa
