/- Locks that are slept for: contract of sleep.Eff, which calls itself. -/
import Derived.Test.YtenhcpobncmedaaSeD
namespace Go
theorem max_if {k : IntKind} {a b c : Int} (h : max a b = c) : Value.int k (if a < b then b else a) = .int k c := by
  congr 1
  split <;> omega
end Go
namespace Go.Proofs.Ytenhcpobncmedaa
open Go.RowKit Go.Maps
set_option maxHeartbeats 400000
set_option linter.unusedVariables false
set_option linter.unusedSimpArgs false
def effV (s : LkS) (t : Int) : Int := if (s.P t).isSome = true then eff s t else 0
def effE (s : LkS) (t : Int) : Int := if (s.P t).isSome = true then 0 else 4
theorem acc_start (s : LkS) (p t : Int) : accI (eff s) p (kids s t 0) = p := rfl
theorem acc_in (s : LkS) (p t : Int) (k : Nat) : accI (eff s) p (kids s t k ++ (s.F k).take 0) = accI (eff s) p (kids s t k) := by simp
theorem acc_out {s : LkS} (p : Int) {t : Int} {k : Nat} (h : s.O k = t) : accI (eff s) p (kids s t k ++ (s.F k).take (s.F k).length) = accI (eff s) p (kids s t (k + 1)) := by rw [kids_yes h, List.take_length]
theorem acc_no {s : LkS} (p : Int) {t : Int} {k : Nat} (h : s.O k ≠ t) : accI (eff s) p (kids s t k) = accI (eff s) p (kids s t (k + 1)) := by rw [kids_no h]
theorem acc_more (s : LkS) (p t : Int) (k : Nat) {j : Nat} (hj : j < (s.F k).length) : max (accI (eff s) p (kids s t k ++ (s.F k).take j)) (eff s ((s.F k).getD j 0)) = accI (eff s) p (kids s t k ++ (s.F k).take (j + 1)) := by
  rw [List.take_succ_eq_append_getElem hj, ← List.append_assoc, accI_snoc]
  simp [List.getD, List.getElem?_eq_getElem hj]
theorem getD_mem {xs : List Int} {j : Nat} (hj : j < xs.length) : xs.getD j 0 ∈ xs := by simp [List.getD, List.getElem?_eq_getElem hj]
section
variable {w : World} {g bp np bf nf : Nat} {s : LkS}
set_option maxRecDepth 100000 in
theorem eff_no (h : LkR w g bp np s) (t : Int) (ht : (Lit.int .i64 t).wf = true) (hP : (s.P t).isSome = false) :
    Calls Try.prog 118 #[.pointer (some ⟨g, 0, none⟩), .int .i64 t] w fun e w' => e = .returned (.tuple #[.int .i64 (effV s t), .int .i64 (effE s t)]) ∧ Below w.heap.size w w' := by
  have hl := h.look ht
  have hp := h.hp
  have e1 : effV s t = 0 := if_neg (by simp [hP])
  have e2 : effE s t = 4 := if_neg (by simp [hP])
  rw [e1, e2]
  rw [hP] at hl
  generalize (s.P t).getD 0 = p at *
  clear h e1 e2 hP
  go_enter Try.func118, Try.ntmps118
  go_wp2
  go_ret2
  exact ⟨rfl, Below.refl _ _⟩
theorem task_wf {t : Int} (h1 : 1 ≤ t) (h2 : t ≤ 16) : (Lit.int .i64 t).wf = true := by
  simp [Lit.wf, IntKind.min, IntKind.max, IntKind.signed, IntKind.bits]; omega
set_option maxHeartbeats 1000000 in
set_option maxRecDepth 100000 in
theorem eff_yes (hs : LkOk s) {L : List Int} (hL : Ord s L) : ∀ (n : Nat) (w : World) (t : Int), LkR w g bp np s → (s.P t).isSome = true → L.idxOf t < n →
    Calls Try.prog 118 #[.pointer (some ⟨g, 0, none⟩), .int .i64 t] w fun e w' => e = .returned (.tuple #[.int .i64 (eff s t), .int .i64 0]) ∧ Below w.heap.size w w' := by
  intro n
  induction n with
  | zero => intro w t _ _ h; omega
  | succ n ih =>
    intro w t h hP hn
    have htask := hs.task hP
    have HF := Lib.hid (eff_fix hL (hL.lt htask.1 htask.2))
    have hl := h.look (task_wf htask.1 htask.2)
    have hp := h.hp
    have HR := Lib.hid h
    have HI := Lib.hid (fun k (hk : k < 16) (ho : s.O k = t) x (hx : x ∈ s.F k) wr (hb : Below w.heap.size w wr) => ih wr x (h.grow hb) (hs.mem k hk x hx).1 (by have := hL.up hk hx; rw [ho] at this; omega))
    rw [hP] at hl
    generalize (s.P t).getD 0 = p at *
    have HS := Lib.hid (acc_start s p t)
    have HIN := Lib.hid (acc_in s p t)
    have HOUT := Lib.hid (fun k => acc_out (s := s) p (t := t) (k := k))
    have HNO := Lib.hid (fun k => acc_no (s := s) p (t := t) (k := k))
    have HM := Lib.hid (acc_more s p t)
    clear h hP hn htask ih
    go_enter Try.func118, Try.ntmps118
    go_wp2
    clear hl hp
    go_loopw [6, 24] (fun q i wr => ∃ k : Nat, k ≤ 16 ∧ i = .int .i64 k ∧ q = .int .i64 (accI (eff s) p (kids s t k)) ∧ Below w.heap.size w wr) (fun _ i _ => 16 - (intOf i).toNat)
    case atStart => exact ⟨0, by omega, rfl, by rw [HS.out], Below.refl _ _⟩
    case round =>
      obtain ⟨k, hk, rfl, rfl, hbw⟩ := hrel
      by_cases hlt : k < 16
      · have hkn : (k : Int) < 16 := by omega
        have hk0 : (0 : Int) ≤ k := by omega
        have ho := (HR.out.grow hbw).ho k hlt
        by_cases hot : s.O k = t
        · have HI' := Lib.hid (HI.out k hlt hot)
          have HOUT' := Lib.hid (HOUT.out k hot)
          have HIN' := Lib.hid (HIN.out k)
          have HM' := Lib.hid (fun j => HM.out k (j := j))
          obtain ⟨A, m, c, hc, hr, hm⟩ := (HR.out.grow hbw).hr k hlt
          have HLN := Lib.hid hr.len
          have HRD := Lib.hid hr
          have HBW := Lib.hid hbw
          have HG := Lib.hid (fun j (hj : j < (s.F k).length) => getD_mem hj)
          have d1 : (s.O k != t) = false := by simpa using hot
          generalize s.O k = o at *
          generalize kids s t k = ks at *
          generalize s.F k = xs at *
          clear hot hr hbw
          go_wp2
          clear hc ho
          obtain ⟨W, hW⟩ : ∃ W, W = wr := ⟨_, rfl⟩
          subst hW
          go_loopw [6, 42] (fun q i wr => ∃ j : Nat, j ≤ m ∧ i = .int .i64 j ∧ q = .int .i64 (accI (eff s) p (ks ++ xs.take j)) ∧ Below W.heap.size W wr) (fun _ i _ => m - (intOf i).toNat)
          case atStart => exact ⟨0, by omega, rfl, by rw [HIN'.out], Below.refl _ _⟩
          case round =>
            obtain ⟨j, hj, rfl, rfl, hb2⟩ := hrel
            have HB2 := Lib.hid hb2
            by_cases hjm : j < m
            · obtain ⟨b, of, rfl, hb, hcj⟩ := (HRD.out.below' hb2 (Nat.le_refl _)).at_ hjm
              have hjn : (j : Int) < m := by omega
              have hjl : j < xs.length := by rw [HLN.out]; exact hjm
              have HI2 := Lib.hid (HI'.out _ (HG.out j hjl) wr (HBW.out.trans (hb2.mono HBW.out.size)))
              have HM2 := Lib.hid (HM'.out j hjl)
              clear hb2
              generalize xs.getD j 0 = x at *
              go_wp2_with fail
              refine HI2.out.mono ?_
              rintro e w3 ⟨rfl, hb3⟩
              generalize eff s x = ex at *
              have HB3 := Lib.hid hb3
              clear hb3
              go_wp2
              go_roundw
              case rel => exact ⟨j + 1, by omega, by go_num, max_if HM2.out, HB2.out.trans (HB3.out.mono HB2.out.size)⟩
              case measure => simp [intOf]; omega
            · obtain rfl : j = m := by omega
              have HO2 := Lib.hid (HLN.out ▸ HOUT'.out)
              clear hb2
              go_wp2
              go_roundw
              case rel => exact ⟨k + 1, by omega, by go_num, by rw [← HO2.out], HBW.out.trans (HB2.out.mono HBW.out.size)⟩
              case measure => simp [intOf]; omega
        · have HN' := Lib.hid (HNO.out k hot)
          have d1 : (s.O k != t) = true := by simpa using hot
          generalize s.O k = o at *
          have HBW := Lib.hid hbw
          clear hot hbw
          go_wp2
          go_roundw
          case rel => exact ⟨k + 1, by omega, by go_num, by rw [← HN'.out], HBW.out⟩
          case measure => simp [intOf]; omega
      · obtain rfl : k = 16 := by omega
        rw [← HF.out]
        go_wp2
        go_ret2
        exact ⟨rfl, hbw⟩
theorem eff118 (hs : LkOk s) (h : LkR w g bp np s) (t : Int) (ht : (Lit.int .i64 t).wf = true) :
    Calls Try.prog 118 #[.pointer (some ⟨g, 0, none⟩), .int .i64 t] w fun e w' => e = .returned (.tuple #[.int .i64 (effV s t), .int .i64 (effE s t)]) ∧ Below w.heap.size w w' := by
  cases hP : (s.P t).isSome with
  | false => exact eff_no h t ht hP
  | true =>
    obtain ⟨L, hL⟩ := hs.ord
    have e1 : effV s t = eff s t := if_pos hP
    have e2 : effE s t = 0 := if_pos hP
    rw [e1, e2]
    exact eff_yes hs hL 16 w t h hP (hL.lt (hs.task hP).1 (hs.task hP).2)
end
end Go.Proofs.Ytenhcpobncmedaa
