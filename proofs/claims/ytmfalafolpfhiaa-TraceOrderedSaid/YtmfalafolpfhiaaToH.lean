/- slices.Compact at a row of edges. -/
import Derived.Test.YtmfalafolpfhiaaToG
import Derived.Test.YtmfalafolpfhiaaDel
import Derived.Lib.SlicesCompact
namespace Go.Proofs.Ytmfalafolpfhiaa
open Go.RowKit
set_option maxHeartbeats 400000
set_option linter.unusedVariables false
set_option linter.unusedSimpArgs false
theorem set_edges : ∀ (l : List (Int × Int)) (k : Nat) (x : Int × Int), k < l.length → ((l.flatMap edgeCl).set (k * 2) (.int .i64 x.1)).set (k * 2 + 1) (.int .i64 x.2) = (l.set k x).flatMap edgeCl := by
  intro l
  induction l with
  | nil => intro k x h; simp at h
  | cons a l ih =>
    intro k x h
    rw [List.flatMap_cons]
    cases k with
    | zero => simp [edgeCl]
    | succ k =>
      have e1 : (k + 1) * 2 = k * 2 + 2 := by omega
      have e2 : (k + 1) * 2 + 1 = (k * 2 + 1) + 2 := by omega
      rw [e2, e1, List.set_cons_succ, List.flatMap_cons, ← ih k x (by simpa using h)]
      simp [edgeCl]
theorem keeps_no {d : List (Int × Int)} {k : Nat} (hk : 0 < k) (hl : k < d.length) : Lib.keeps d.toArray k = decide (d.getD k (0, 0) ≠ d.getD (k - 1) (0, 0)) := by
  unfold Lib.keeps
  rw [getBangE, getBangE]
  have e : ¬ k = 0 := by omega
  have e1 : d.getD k default = d.getD k (0, 0) := by simp [List.getD, List.getElem?_eq_getElem hl]
  have e2 : d.getD (k - 1) default = d.getD (k - 1) (0, 0) := by simp [List.getD, List.getElem?_eq_getElem (show k - 1 < d.length by omega)]
  rw [e1, e2]
  simp [e]
theorem take_edges : ∀ (l : List (Int × Int)) (k : Nat), (l.flatMap edgeCl).take (k * 2) = (l.take k).flatMap edgeCl := by
  intro l
  induction l with
  | nil => intro k; simp
  | cons a l ih =>
    intro k
    cases k with
    | zero => simp
    | succ k =>
      have e : (k + 1) * 2 = k * 2 + 1 + 1 := by omega
      rw [e, List.take_succ_cons, List.flatMap_cons, List.flatMap_cons, ← ih k]
      simp [edgeCl]
theorem st_row {wr : World} {B g o n c kk : Nat} {l : List (Int × Int)} {p1 p2 : Int} (h : Row wr B 37 2 (.slice (some ⟨g, o, none⟩) n c) n (l.flatMap edgeCl)) (hl : l.length = n) (hk : kk < n) (nq : Nat) :
    Row (((wr.drewN nq).setCell ⟨g, o + kk * 2, none⟩ (.int .i64 p1)).setCell ⟨g, o + kk * 2 + 1, none⟩ (.int .i64 p2)) B 37 2 (.slice (some ⟨g, o, none⟩) n c) n ((l.set kk (p1, p2)).flatMap edgeCl) := by
  have h0 : Row (wr.drewN nq) B 37 2 (.slice (some ⟨g, o, none⟩) n c) n (l.flatMap edgeCl) := h.fr ((Fr.refl Nil wr).drewN nq) (fun _ _ h => h)
  have h1 := (h0.stored (j := kk * 2) (by omega) (.int .i64 p1)).stored (j := kk * 2 + 1) (by omega) (.int .i64 p2)
  rw [set_edges l kk (p1, p2) (by omega)] at h1
  exact h1
/-- What the second loop keeps. -/
structure CI (d : List (Int × Int)) (m k : Nat) (l : List (Int × Int)) : Prop where
  inv : Lib.CompInv d.toArray m k l.toArray
  len : l.length = d.length
theorem CI.get {d l : List (Int × Int)} {m k j : Nat} (h : CI d m k l) (hj : k ≤ j) (hl : j < d.length) : l.getD j (0, 0) = d.getD j (0, 0) := by
  have := h.inv.high j hj
  rw [getBangE, getBangE] at this
  have e1 : d.getD j default = d.getD j (0, 0) := by simp [List.getD, List.getElem?_eq_getElem hl]
  have e2 : l.getD j default = l.getD j (0, 0) := by simp [List.getD, List.getElem?_eq_getElem (show j < l.length by rw [h.len]; exact hl)]
  rw [← e1, ← e2]; exact this
theorem CI.start {d : List (Int × Int)} {k : Nat} (hall : ∀ j, j < k → Lib.keeps d.toArray j = true) (hd : Lib.keeps d.toArray k = false) : CI d (k + 1) k d := ⟨Lib.CompInv.start hall hd, rfl⟩
theorem CI.keep {d l : List (Int × Int)} {m k : Nat} (h : CI d m k l) (hm : m < d.length) (hk : Lib.keeps d.toArray m = true) : CI d (m + 1) (k + 1) (l.set k (d.getD m (0, 0))) := by
  refine ⟨?_, by rw [List.length_set]; exact h.len⟩
  have := h.inv.keep (by simpa using hm) hk
  have e1 : d.toArray[m]! = d.getD m (0, 0) := by rw [getBangE]; simp [List.getD, List.getElem?_eq_getElem hm]
  rw [e1] at this
  simpa using this
theorem CI.skip {d l : List (Int × Int)} {m k : Nat} (h : CI d m k l) (hk : Lib.keeps d.toArray m = false) : CI d (m + 1) k l := ⟨h.inv.skip hk, h.len⟩
theorem CI.done {d l : List (Int × Int)} {k : Nat} (h : CI d d.length k l) : l.take k = Lib.compact d ∧ (Lib.compact d).length = k := by
  have hl : (Lib.compact d).length = k := by have := h.inv.len; simpa [Lib.compact] using this
  have hlt := h.inv.lt
  have hls := h.len
  refine ⟨?_, hl⟩
  refine List.ext_getElem (by rw [List.length_take, hl]; omega) fun j h1 h2 => ?_
  have hj : j < k := by rw [hl] at h2; exact h2
  have := h.inv.low j hj
  have e0 : Lib.compactUpTo d.toArray d.length = Lib.compact d := rfl
  rw [e0, List.getElem?_eq_getElem h2] at this
  injection this with this
  rw [this, List.getElem_take, getBangE]
  simp [List.getD, List.getElem?_eq_getElem (show j < l.length by omega)]
set_option maxHeartbeats 2000000 in
set_option maxRecDepth 100000 in
theorem compact26 (g o n c B : Nat) (es : List (Int × Int)) (w : World) (h : Row w B 37 2 (.slice (some ⟨g, o, none⟩) n c) n (es.flatMap edgeCl)) (hl : es.length = n) (hn : n ≤ 1000000) (h2 : 2 ≤ n) (hnc : n ≤ c ∧ c ≤ 9223372036854775807) :
    Calls Try.prog 26 #[.slice (some ⟨g, o, none⟩) n c] w fun e w' => ∃ m, e = .returned (.slice (some ⟨g, o, none⟩) m c) ∧ m = (Lib.compact es).length ∧ Row w' B 37 2 (.slice (some ⟨g, o, none⟩) m c) m ((Lib.compact es).flatMap edgeCl) ∧ Fr (fun k => some g = some k) w w' := by
  go_enter Try.func26, Try.ntmps26
  go_wp2
  go_loopw [3] (fun k wr => ∃ j : Nat, 1 ≤ j ∧ j ≤ n ∧ k = .int .i64 j ∧ (∀ i, i < j → Lib.keeps es.toArray i = true) ∧ Fr Nil w wr) (fun k _ => n - (intOf k).toNat)
  case atStart => exact ⟨1, by omega, by omega, rfl, Lib.keeps_lt_one _, Fr.refl _ _⟩
  case round =>
    obtain ⟨j, hj1, hjn, rfl, hall, hfr⟩ := hrel
    by_cases hlt : j < n
    · have hr := h.fr hfr (fun _ _ h => h)
      obtain ⟨b, o2, hA, hb, c0, c1⟩ := RE.at_ ⟨hr.reads, hl⟩ hlt
      injection hA with hA
      injection hA with hA1 hA2
      subst hA1; subst hA2
      obtain ⟨b, o2, hA, hb, d0, d1⟩ := RE.at_ ⟨hr.reads, hl⟩ (show j - 1 < n by omega)
      injection hA with hA
      injection hA with hA1 hA2
      subst hA1; subst hA2
      have hk := keeps_no (d := es) hj1 (by omega)
      generalize es.getD j (0, 0) = p at *
      generalize es.getD (j - 1) (0, 0) = q at *
      obtain ⟨p1, p2⟩ := p
      obtain ⟨q1, q2⟩ := q
      dsimp only at c0 c1 d0 d1
      have e1 : (j : Int) - 1 = ((j - 1 : Nat) : Int) := by omega
      have e2 : IntKind.i64.wrap ((j : Int) - 1) = ((j - 1 : Nat) : Int) := by rw [e1]; exact IntWalk.i64_in _ (by omega)
      have hjz : (j : Int) < n := by omega
      have no : ¬ (p1 = q1 ∧ p2 = q2) → ∀ i, i < j + 1 → Lib.keeps es.toArray i = true := fun hne i hi => by
        by_cases e : i < j
        · exact hall i e
        · obtain rfl : i = j := by omega
          rw [hk]
          simp only [ne_eq, Prod.mk.injEq, decide_eq_true_eq]
          exact hne
      have yes : (p1 = q1 ∧ p2 = q2) → Lib.keeps es.toArray j = false := fun he => by
        rw [hk, he.1, he.2]; simp
      have NO := Lib.hid no
      have YES := Lib.hid yes
      have HALL := Lib.hid hall
      have HFR := Lib.hid hfr
      have HR := Lib.hid hr
      clear no yes hk hall hfr hr
      by_cases hp1 : p1 = q1
      · by_cases hp2 : p2 = q2
        · have HD := Lib.hid (YES.out ⟨hp1, hp2⟩)
          subst hp1; subst hp2
          clear NO YES
          go_wp2_with fail
          refine wp_region_quiet_lit (by kernel_rfl) (by kernel_rfl) ?_
          repeat (go_big_quiet_step (fail))
          refine wpQuiet_nil ?_
          intro _ hw'
          obtain ⟨nq, rfl⟩ := hw'
          have HCI := Lib.hid (CI.start HALL.out HD.out)
          have HFR2 := Lib.hid ((HFR.out.drewN nq).mono (S' := fun k => some g = some k) (fun _ _ h => h.elim))
          have HR2 : Hid (Row (wr.drewN nq) B 37 2 (.slice (some ⟨g, o, none⟩) n c) n (es.flatMap edgeCl)) := Lib.hid (HR.out.fr ((Fr.refl Nil wr).drewN nq) (fun _ _ h => h))
          clear HALL HFR HR HD c0 c1 d0 d1 e1 e2
          have hcj : ¬ c = j := by omega
          go_wp2
          go_loopw [3, 5] (fun k t wr => ∃ (tt kk : Nat) (l : List (Int × Int)), 1 ≤ tt ∧ tt ≤ n - j ∧ k = .int .i64 kk ∧ t = .int .i64 tt ∧ Hid (CI es (j + tt) kk l) ∧ Hid (Row wr B 37 2 (.slice (some ⟨g, o, none⟩) n c) n (l.flatMap edgeCl)) ∧ Hid (Fr (fun k => some g = some k) w wr)) (fun _ t _ => (n - j) - (intOf t).toNat)
          case atStart => exact ⟨1, j, es, by omega, by omega, rfl, rfl, HCI, HR2, HFR2⟩
          case round =>
            clear HCI HR2 HFR2
            obtain ⟨tt, kk, l, ht1, htn, rfl, rfl, HC, HR, HFR⟩ := hrel
            have hkm := HC.out.inv.lt
            have hll : l.length = n := by rw [HC.out.len]; exact hl
            by_cases htl : tt < n - j
            · obtain ⟨b, o2, hA, hb, c0, c1⟩ := RE.at_ ⟨HR.out.reads, hll⟩ (show j + tt < n by omega)
              injection hA with hA
              injection hA with hA1 hA2
              subst hA1; subst hA2
              obtain ⟨b, o2, hA, hb, d0, d1⟩ := RE.at_ ⟨HR.out.reads, hll⟩ (show j + tt - 1 < n by omega)
              injection hA with hA
              injection hA with hA1 hA2
              subst hA1; subst hA2
              obtain ⟨b, o2, hA, hb, g0, g1⟩ := RE.at_ ⟨HR.out.reads, hll⟩ (show kk < n by omega)
              injection hA with hA
              injection hA with hA1 hA2
              subst hA1; subst hA2
              have hk := keeps_no (d := es) (k := j + tt) (by omega) (by omega)
              rw [HC.out.get (by omega) (by omega)] at c0 c1 d0 d1
              have KEEP := Lib.hid (fun hk => HC.out.keep (by omega) hk)
              have SKIP := Lib.hid (fun hk => HC.out.skip hk)
              generalize l.getD kk (0, 0) = z at *
              generalize es.getD (j + tt) (0, 0) = p at *
              generalize es.getD (j + tt - 1) (0, 0) = q at *
              obtain ⟨p1, p2⟩ := p
              obtain ⟨q1, q2⟩ := q
              obtain ⟨z1, z2⟩ := z
              dsimp only at c0 c1 d0 d1 g0 g1
              rw [show o + (j + tt) * 2 = o + j * 2 + tt * 2 by omega] at c0 c1
              rw [show o + (j + tt - 1) * 2 = o + j * 2 + (tt - 1) * 2 by omega] at d0 d1
              have e1 : (tt : Int) - 1 = ((tt - 1 : Nat) : Int) := by omega
              have e2 : IntKind.i64.wrap ((tt : Int) - 1) = ((tt - 1 : Nat) : Int) := by rw [e1]; exact IntWalk.i64_in _ (by omega)
              have htz : (tt : Int) < ((n - j : Nat) : Int) := by omega
              have hfz : ∀ q, wr.frozen? ⟨g, q, none⟩ = false := fun q => by
                rcases HR.out.2 with ⟨e, _⟩ | ⟨g', o', cap, cur, e, _, hg, _⟩
                · injection e with e; cases e
                · injection e with e
                  injection e with e
                  injection e with e _
                  subst e
                  exact frozen_of_row wr _ q cur 37 hg
              have hkz : (kk : Int) < n := by omega
              have no : ¬ (p1 = q1 ∧ p2 = q2) → Lib.keeps es.toArray (j + tt) = true := fun hne => by
                rw [hk]
                simp only [ne_eq, Prod.mk.injEq, decide_eq_true_eq]
                exact hne
              have yes : (p1 = q1 ∧ p2 = q2) → Lib.keeps es.toArray (j + tt) = false := fun he => by
                rw [hk, he.1, he.2]; simp
              by_cases hpq : p1 = q1 ∧ p2 = q2
              · have HSK := Lib.hid (SKIP.out (yes hpq))
                obtain ⟨hp1, hp2⟩ := hpq
                subst hp1; subst hp2
                clear no yes hk KEEP SKIP hfz
                go_wp2_with fail
                refine wp_region_quiet_lit (by kernel_rfl) (by kernel_rfl) ?_
                repeat (go_big_quiet_step (fail))
                refine wpQuiet_nil ?_
                intro _ hw'
                obtain ⟨nq, rfl⟩ := hw'
                go_wp2
                go_roundw
                case rel => exact ⟨tt + 1, kk, l, by omega, by omega, rfl, by go_num, HSK, Lib.hid (HR.out.fr ((Fr.refl Nil wr).drewN nq) (fun _ _ h => h)), Lib.hid (HFR.out.drewN nq)⟩
                case measure => simp [intOf]; omega
              · have HKE := Lib.hid (KEEP.out (no hpq))
                clear no yes hk KEEP SKIP
                have HN := Lib.hid hpq
                clear hpq
                by_cases hp1 : p1 = q1
                · have hp2 : ¬ p2 = q2 := fun h => HN.out ⟨hp1, h⟩
                  subst hp1
                  go_wp2_with fail
                  refine wp_region_quiet_lit (by kernel_rfl) (by kernel_rfl) ?_
                  repeat (go_big_quiet_step (fail))
                  refine wpQuiet_nil ?_
                  intro _ hw'
                  obtain ⟨nq, rfl⟩ := hw'
                  go_wp2
                  exact ⟨⟨tt + 1, kk + 1, _, by omega, by omega, by go_num, by go_num, HKE, Lib.hid (st_row HR.out hll (by omega) nq), Lib.hid (((HFR.out.drewN nq).setCell (fun _ => rfl) _).setCell (fun _ => rfl) _)⟩, by simp [intOf]; omega⟩
                · go_wp2_with fail
                  refine wp_region_quiet_lit (by kernel_rfl) (by kernel_rfl) ?_
                  repeat (go_big_quiet_step (fail))
                  refine wpQuiet_nil ?_
                  intro _ hw'
                  obtain ⟨nq, rfl⟩ := hw'
                  go_wp2
                  exact ⟨⟨tt + 1, kk + 1, _, by omega, by omega, by go_num, by go_num, HKE, Lib.hid (st_row HR.out hll (by omega) nq), Lib.hid (((HFR.out.drewN nq).setCell (fun _ => rfl) _).setCell (fun _ => rfl) _)⟩, by simp [intOf]; omega⟩
            · obtain rfl : tt = n - j := by omega
              have hcn : j + (n - j) = es.length := by omega
              rw [hcn] at HC
              obtain ⟨hd1, hd2⟩ := HC.out.done
              have hkn : kk < n := by rw [hl] at hcn; omega
              have hrt := HR.out.take (k := kk) (by omega)
              rw [take_edges, hd1] at hrt
              obtain ⟨w9, hclr, hr9, hg9⟩ := run_clear_row (P := Try.prog) wr B 22 37 (.agg #[.int .i64 0, .int .i64 0]) 2 Try.underlying22 (fun w => Try.zeroValue37 w) rfl (by decide) (by intro u hu; simp [Value.cells] at hu; subst hu; rfl) g o kk c (n - kk) (c - kk) _ hrt (by omega) (by omega)
              have HD2 := Lib.hid hd2
              have HR9 := Lib.hid hr9
              have HF9 := Lib.hid (HFR.out.grown hg9 (fun k e _ => e))
              have hck : ¬ c = kk := by omega
              have hckn : (kk : Int) ≤ c := by omega
              have hkz : (kk : Int) ≤ n := by omega
              clear hd1 hd2 hr9 hg9 hrt HR HFR HC hcn hkm htl
              go_wp2
              go_ret
              exact ⟨kk, rfl, HD2.out.symm, HR9.out, HF9.out⟩
        · have HD := Lib.hid (NO.out (fun h => hp2 h.2))
          subst hp1
          go_wp2_with fail
          refine wp_region_quiet_lit (by kernel_rfl) (by kernel_rfl) ?_
          repeat (go_big_quiet_step (fail))
          refine wpQuiet_nil ?_
          intro _ hw'
          obtain ⟨nq, rfl⟩ := hw'
          go_wp2
          go_roundw
          case rel => exact ⟨j + 1, by omega, by omega, by go_num, HD.out, HFR.out.drewN nq⟩
          case measure => simp [intOf]; omega
      · have HD := Lib.hid (NO.out (fun h => hp1 h.1))
        go_wp2_with fail
        refine wp_region_quiet_lit (by kernel_rfl) (by kernel_rfl) ?_
        repeat (go_big_quiet_step (fail))
        refine wpQuiet_nil ?_
        intro _ hw'
        obtain ⟨nq, rfl⟩ := hw'
        go_wp2
        go_roundw
        case rel => exact ⟨j + 1, by omega, by omega, by go_num, HD.out, HFR.out.drewN nq⟩
        case measure => simp [intOf]; omega
    · obtain rfl : j = n := by omega
      have HC : Hid (Lib.compact es = es) := Lib.hid (Lib.compact_all es (fun i hi => hall i (by omega)))
      have hr := Lib.hid (h.fr hfr (fun _ _ h => h))
      have HFR := Lib.hid hfr
      clear hfr hall
      go_wp2
      go_ret
      exact ⟨j, rfl, by rw [HC.out, hl], by rw [HC.out]; exact hr.out, HFR.out.mono (fun _ _ h => h.elim)⟩
set_option maxRecDepth 100000 in
theorem compact_few (A : Option Addr) (n c : Nat) (w : World) (h2 : n < 2) : Calls Try.prog 26 #[.slice A n c] w fun e w' => e = .returned (.slice A n c) ∧ w = w' := by
  have hz : (n : Int) < 2 := by omega
  go_enter Try.func26, Try.ntmps26
  go_wp2
  go_ret
  exact ⟨rfl, rfl⟩
def CompPost (w : World) (A : Option Addr) (B n c : Nat) (es : List (Int × Int)) (e : Ending) (w' : World) : Prop :=
  e = .returned (.slice A (Lib.compact es).length c) ∧ Row w' B 37 2 (.slice A (Lib.compact es).length c) (Lib.compact es).length ((Lib.compact es).flatMap edgeCl) ∧ Fr (fun k => (Value.slice A n c).ownBlock = some k) w w'
theorem compact_row (A : Option Addr) (n c B : Nat) (es : List (Int × Int)) (w : World) (h : Row w B 37 2 (.slice A n c) n (es.flatMap edgeCl)) (hl : es.length = n) (hn : n ≤ 1000000) :
    Calls Try.prog 26 #[.slice A n c] w (CompPost w A B n c es) := by
  by_cases h2 : n < 2
  · refine (compact_few A n c w h2).mono ?_
    rintro e w' ⟨rfl, rfl⟩
    have e0 : Lib.compact es = es := Lib.compact_all es (fun j hj => Lib.keeps_lt_one _ j (by omega))
    unfold CompPost
    rw [e0, hl]
    exact ⟨rfl, h, Fr.refl _ _⟩
  · have h' := h
    rcases h'.2 with ⟨_, h3⟩ | ⟨g, o, cap, cur, e, hb, hg, hnc, hcm, hsz, hx⟩
    · omega
    · injection e with e1 e2 e3
      subst e1; subst e3
      refine (compact26 g o n c B es w h hl hn (by omega) ⟨hnc, hcm⟩).mono ?_
      rintro e w' ⟨m, rfl, rfl, h1, h2⟩
      exact ⟨rfl, h1, h2.mono (fun k _ e => e)⟩
end Go.Proofs.Ytmfalafolpfhiaa
