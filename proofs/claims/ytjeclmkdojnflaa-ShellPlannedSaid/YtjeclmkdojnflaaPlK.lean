/- Contract of the reference's ShellPlan. -/
import Derived.Test.YtjeclmkdojnflaaPlJ
namespace Go.Proofs.Ytjeclmkdojnflaa
open Go.RowKit
set_option maxHeartbeats 400000
set_option linter.unusedVariables false
set_option linter.unusedSimpArgs false
/-- Behind the shell's pipe. -/
structure Mid (N : Nat) (ss : List Smp) (k : Nat) (s : Smp) (bf : Int) (q : Pst) (rr ww : Int) (q1 : Pst) : Prop where
  next : goF N (ss.drop k) k bf q = goF N (ss.drop (k + 1)) (k + 1) rr (shutF 0 ww (shutF 0 bf (q1.1, (childF (k + 1) s bf ww rr (forkF q1)).2)))
  inv : k + 1 < N → Inv rr (shutF 0 ww (shutF 0 bf (q1.1, (childF (k + 1) s bf ww rr (forkF q1)).2))).1
  len : (shutF 0 ww (shutF 0 bf (q1.1, (childF (k + 1) s bf ww rr (forkF q1)).2))).2.length ≤ q.2.length + 18
  low : Low q1.1
  l1 : q1.2.length ≤ q.2.length + 1
  r8 : rr < 8
  w8 : ww < 8
  b8 : bf < 8
  cb : bf < 0 ∨ (0 ≤ bf ∧ bf < 8 ∧ q1.1 bf = true)
  cw : ww < 0 ∨ (0 ≤ ww ∧ ww < 8 ∧ q1.1 ww = true ∧ ww ≠ bf)
theorem mid_of {N : Nat} {ss : List Smp} {k : Nat} {s : Smp} {t : List Smp} {bf : Int} {q : Pst} (hs : ss.drop k = s :: t) (hk : k + 1 < N) (h : Inv bf q.1) : Mid N ss k s bf q (lst q.1) (lst (up q.1 (lst q.1) true)) (pipeF q) := by
  obtain ⟨⟨r0, r1, r2⟩, ⟨w0, w1, w2⟩, hlow, hb, hw, hne, hinv⟩ := h.mid
  refine ⟨goF_mid hs hk, fun _ => ?_, cmdM_len (k + 1) s bf q, hlow, by simp [pipeF, takeF], r1, w1, by rcases h.be with e | e <;> omega, ?_, .inr ⟨w0, w1, hw, hne⟩⟩
  · have := cmdM_set (k + 1) s bf q
    unfold cmdM at this
    rw [this]; exact hinv
  · rcases h.be with e | e
    · left; omega
    · rcases hb with h1 | h1
      · left; omega
      · exact .inr ⟨e.1, e.2.1, h1⟩
theorem end_of {N : Nat} {ss : List Smp} {k : Nat} {s : Smp} {t : List Smp} {bf : Int} {q : Pst} (hs : ss.drop k = s :: t) (hk : ¬ k + 1 < N) (h : Inv bf q.1) : Mid N ss k s bf q (-1) (-1) q := by
  have hl := cmdE_len (k + 1) s bf q
  refine ⟨?_, fun hh => absurd hh hk, ?_, h.low, by omega, by omega, by omega, by rcases h.be with e | e <;> omega, ?_, .inl (by omega)⟩
  · rw [shut_neg]; exact goF_end hs hk
  · rw [shut_neg]; unfold cmdE at hl; omega
  · rcases h.be with e | e
    · left; omega
    · exact .inr e
theorem shut_set2 {me n : Int} {z : Pst} (hn : 0 ≤ n) (h : z.1 n = true) : shutF me n z = (up z.1 n false, z.2 ++ [stp me 6 n 0]) := by
  unfold shutF
  rw [if_pos ⟨hn, h⟩]
/-- The two ends are shut, one after the other. -/
def clo (bf ww : Int) (q : Pst) (j : Nat) : Pst := if j = 0 then q else if j = 1 then shutF 0 bf q else shutF 0 ww (shutF 0 bf q)
def endsV (bf ww : Int) (j : Nat) : Int := if j = 0 then bf else ww
theorem clo_step {N : Nat} {ss : List Smp} {k : Nat} {s : Smp} {bf : Int} {q : Pst} {rr ww : Int} {q1 : Pst} (h : Mid N ss k s bf q rr ww q1) (l : List Stp) {j : Nat} (hj : j < 2) :
    (endsV bf ww j < 0 ∧ clo bf ww (q1.1, l) (j + 1) = clo bf ww (q1.1, l) j) ∨ (0 ≤ endsV bf ww j ∧ endsV bf ww j < 8 ∧ (clo bf ww (q1.1, l) j).1 (endsV bf ww j) = true ∧ clo bf ww (q1.1, l) (j + 1) = (up (clo bf ww (q1.1, l) j).1 (endsV bf ww j) false, (clo bf ww (q1.1, l) j).2 ++ [stp 0 6 (endsV bf ww j) 0])) := by
  rcases (by omega : j = 0 ∨ j = 1) with rfl | rfl
  · rcases h.cb with e | ⟨e1, e2, e3⟩
    · exact .inl ⟨e, (show shutF 0 bf (q1.1, l) = (q1.1, l) by unfold shutF; rw [if_neg (by omega)])⟩
    · exact .inr ⟨e1, e2, e3, (shut_set e1 e3 : shutF 0 bf (q1.1, l) = _)⟩
  · rcases h.cw with e | ⟨e1, e2, e3, e4⟩
    · exact .inl ⟨e, (show shutF 0 ww (shutF 0 bf (q1.1, l)) = shutF 0 bf (q1.1, l) by generalize shutF 0 bf (q1.1, l) = z; unfold shutF; rw [if_neg (by omega)])⟩
    · have hs : (shutF 0 bf (q1.1, l)).1 ww = true := by
        unfold shutF
        split
        · exact (up_other _ e4 _).trans e3
        · exact e3
      exact .inr ⟨e1, e2, hs, (shut_set2 e1 hs : shutF 0 ww (shutF 0 bf (q1.1, l)) = _)⟩
theorem clo_len (bf ww : Int) (q : Pst) (j : Nat) : (clo bf ww q j).2.length ≤ q.2.length + 2 := by
  have h1 := shutF_len 0 bf q
  have h2 := shutF_len 0 ww (shutF 0 bf q)
  unfold clo
  split
  · omega
  · split <;> omega
/-- What is left when some commands are done. -/
structure Pr (W : World) (N : Nat) (ss : List Smp) (os : List Int) (po pd bm nb0 : Nat) (k : Nat) (bf : Int) (wr : World) : Prop where
  ex : ∃ q nb, Ow W po pd bm nb q wr ∧ goF N ss 0 (-1) (opened (fun _ => false) os, []) = goF N (ss.drop k) k bf q ∧ q.2.length ≤ 18 * k ∧ (k < N → Inv bf q.1) ∧ nb ≤ nb0 + 2 * k
def FM (w : World) (b nb : Nat) (S : Fds) : Prop := ∃ m, FSet w b nb S m ∧ m + cnt S = 8
theorem FM.grow {w w' : World} {b nb : Nat} {S : Fds} (h : FM w b nb S) (hb : Below w.heap.size w w') : FM w' b nb S := h.imp fun m x => ⟨x.1.grow hb, x.2⟩
theorem FM.put {w : World} {b nb : Nat} {S : Fds} (h : FM w b nb S) {x : Int} (hx : 0 ≤ x ∧ x < 8) (hn : nb < 200000000000000) : ∃ w', (Instr.mapUpdate 59 (.map (some b)) (.int .i64 x) (.bool true)).run Try.prog w = .ok () w' ∧ FM w' b (nb + 1) (up S x true) ∧ w.grownBy w' (some b) := by
  obtain ⟨m, hm, hc⟩ := h
  obtain ⟨w', hrun, hs, hg⟩ := hm.update Try.underlying3 Try.underlying4 Try.underlying59 (by unfold maxLen; omega) (i64_small hx)
  refine ⟨w', hrun, ⟨_, hs, ?_⟩, hg⟩
  show (if S x = true then m else m + 1) + cnt (up S x true) = 8
  cases hS : S x with
  | true => have := cnt_same hx hS; simp; omega
  | false => have := cnt_take hx hS; simp; omega
theorem Ow.start {W w : World} {nb : Nat} {S : Fds} (h : FM w W.heap.size nb S) (hb : Below W.heap.size W w) : Ow W w.heap.size (w.heap.size + 1) W.heap.size nb (S, []) ((w.alloc (.cells #[.slice none 0 0] 24)).alloc (.cells #[doF w.heap.size] 60)) := by
  have hbb : Below w.heap.size w ((w.alloc (.cells #[.slice none 0 0] 24)).alloc (.cells #[doF w.heap.size] 60)) := ((Below.refl _ _).alloc (Nat.le_refl _) _).alloc (by simp) _
  refine ⟨⟨.slice none 0 0, (Blk.new w _ _).alloc _, Row.nil _ _ _ _, hb.size⟩, h.grow hbb, ?_, Nat.le_refl _, hb.trans (hbb.mono hb.size)⟩
  have := Blk.new (w.alloc (.cells #[.slice none 0 0] 24)) #[doF w.heap.size] 60
  have e : (w.alloc (.cells #[.slice none 0 0] 24)).heap.size = w.heap.size + 1 := by simp
  rw [e] at this
  exact this
set_option maxHeartbeats 8000000 in
set_option maxRecDepth 100000 in
theorem ref_any (A : Option Addr) (n c : Nat) (rs : List Sp) (A1 : Option Addr) (n1 c1 : Nat) (os : List Int) (W : World) (h : RP W W.heap.size A n rs) (ho : RI .i64 W W.heap.size A1 n1 os) (hn1 : n1 ≤ 140737488355328) :
    Calls Try.prog 6 #[.slice A n c, .slice A1 n1 c1] W (PlanRet W n (rs.map Sp.s) os) := by
  have HL := Lib.hid h.len
  have HO := Lib.hid ho.len
  have hmf : ∀ fn first cap w, (Instr.makeFunc fn first cap).run Try.prog w = .ok (.func fn first cap) w := fun _ _ _ _ => rfl
  have hmm : ∀ w, (Instr.makeMap 59 none).run Try.prog w = .ok (.map (some w.heap.size)) (w.alloc (.map #[] 0)) := fun _ => rfl
  by_cases hn : n < 1 ∨ 6 < n
  · have HE := Lib.hid (err_arg (ss := rs.map Sp.s) (os := os) hn)
    go_enter Try.func6, Try.ntmps6
    rcases hn with hn | hn
    · obtain rfl : n = 0 := by omega
      go_wp2
      go_ret2
      exact plan_bad HE.out (by decide) (Below.refl _ _)
    · have hd : ((n : Int) == 0) = false := by simp; omega
      have hd2 : decide ((6 : Int) < n) = true := by simp; omega
      go_wp2
      go_ret2
      exact plan_bad HE.out (by decide) (Below.refl _ _)
  · have HN := Lib.hid hn
    have hd : ((n : Int) == 0) = false := by simp; omega
    have hd2 : decide ((6 : Int) < n) = false := by simp; omega
    clear hn
    go_enter Try.func6, Try.ntmps6
    go_wp2_with fail
    have H1 : Hid (FM (W.alloc (.map #[] 0)) W.heap.size 0 (st0 os 0).1 ∧ Below W.heap.size W (W.alloc (.map #[] 0))) := Lib.hid ⟨⟨0, TSet.made Try.prog W 3 4, by simp [st0, opened, cnt]⟩, (Below.refl _ _).alloc (Nat.le_refl _) _⟩
    go_loopw [37] (fun i wr => ∃ k : Nat, i = .int .i64 k ∧ k ≤ n1 ∧ (∀ j : Nat, j < k → 0 ≤ os.getD j 0 ∧ os.getD j 0 < 8) ∧ FM wr W.heap.size k (st0 os k).1 ∧ Below W.heap.size W wr) (fun i _ => n1 - (intOf i).toNat)
    case atStart => exact ⟨0, rfl, by omega, fun j hj => by omega, H1.out⟩
    case round =>
      obtain ⟨k, rfl, hk, hgood, hM, hB⟩ := hrel
      clear H1
      have HG := Lib.hid hgood
      have HM := Lib.hid hM
      have HB := Lib.hid hB
      clear hgood hM hB
      by_cases hlt : k < n1
      · have ho2 := ho.below' HB.out (Nat.le_refl _)
        obtain ⟨b, o, rfl, hb, hcell, hrg⟩ := ho2.at_ hlt
        have hkn : (k : Int) < n1 := by omega
        have hbw : b < wr.heap.size := by have := HB.out.size; omega
        have HU := Lib.hid (st0_succ (os := os) (k := k) (by rw [HO.out]; exact hlt))
        have HX : Hid (∃ y, os.getD k 0 = y) := Lib.hid ⟨_, rfl⟩
        obtain ⟨y, hy⟩ := HX.out
        rw [hy] at hcell HU
        have HY := Lib.hid hy
        clear hy HX hrg ho2
        by_cases h0 : y < 0
        · have HE := Lib.hid (err_open (ss := rs.map Sp.s) HN.out (k := k) (by rw [HO.out]; exact hlt) (.inl (by rw [HY.out]; exact h0)))
          have hd0 : decide (y < 0) = true := by simpa using h0
          go_wp2
          go_ret2
          exact plan_bad HE.out (by decide) HB.out
        · by_cases h8 : 7 < y
          · have HE := Lib.hid (err_open (ss := rs.map Sp.s) HN.out (k := k) (by rw [HO.out]; exact hlt) (.inr (by rw [HY.out]; omega)))
            have hd0 : decide (y < 0) = false := by simpa using h0
            have hd8 : decide (7 < y) = true := by simpa using h8
            go_wp2
            go_ret2
            exact plan_bad HE.out (by decide) HB.out
          · have hd0 : decide (y < 0) = false := by simpa using h0
            have hd8 : decide (7 < y) = false := by simpa using h8
            obtain ⟨w2, hrun, hm2, hg2⟩ := HM.out.put (x := y) (by omega) (by omega)
            have HP : Hid (FM w2 W.heap.size (k + 1) (st0 os (k + 1)).1) := Lib.hid (by rw [HU.out]; exact hm2)
            have HB2 : Hid (Below W.heap.size W w2) := Lib.hid (HB.out.trans (((Fr.of_grown hg2).mono (S' := fun k => k = W.heap.size) (fun k _ e => by injection e with e; exact e.symm)).below HB.out.size (fun k e => e ▸ Nat.le_refl _)))
            clear hm2 hg2
            go_wp2
            go_roundw
            case rel => exact ⟨k + 1, by go_num, by omega, fun j hj => by
              rcases (by omega : j < k ∨ j = k) with h | rfl
              · exact HG.out j h
              · rw [HY.out]; omega, HP.out, HB2.out⟩
            case measure => simp [intOf]; omega
      · obtain rfl : k = n1 := by omega
        have HGO := Lib.hid (good_open (os := os) (fun j hj => HG.out j (by rw [← HO.out]; exact hj)))
        clear HG
        go_wp2_with fail
        have H0 := Lib.hid (⟨HM.out, HB.out⟩ : FM wr W.heap.size k (st0 os k).1 ∧ Below W.heap.size W wr)
        clear HM HB
        go_loopw [52] (fun i w2 => ∃ j : Nat, i = .int .i64 j ∧ j ≤ n ∧ (∀ (m : Nat) (s : Smp), m < j → (rs.map Sp.s)[m]? = some s → s.bad = false) ∧ FM w2 W.heap.size k (st0 os k).1 ∧ Below W.heap.size W w2) (fun i _ => n - (intOf i).toNat)
        case atStart => exact ⟨0, rfl, by omega, fun m s hm => by omega, H0.out⟩
        case round =>
          obtain ⟨j, rfl, hj, hgood, hM, hB⟩ := hrel
          clear H0
          have HG := Lib.hid hgood
          have HM := Lib.hid hM
          have HB := Lib.hid hB
          clear hgood hM hB
          have hn6 : n ≤ 6 := by have := HN.out; omega
          by_cases hjn : j < n
          · have h2 := h.below' HB.out (Nat.le_refl _)
            obtain ⟨b, o, rfl, hb, hf, hget, c0, c1, c2, c3⟩ := h2.at_ hjn
            have HGT : Hid ((rs.map Sp.s)[j]? = some (rs.getD j Sp.zero).s) := Lib.hid (by rw [List.getElem?_map, hget]; rfl)
            clear hget h2
            generalize rs.getD j Sp.zero = r at *
            have hjn' : (j : Int) < n := by omega
            have hbw : b < wr.heap.size := by have := HB.out.size; omega
            have hba1 : Below wr.heap.size wr (wr.alloc (.cells #[.slice r.A r.n r.c, .string r.sin, .string r.sout, .bool r.more] 49)) := (Below.refl _ _).alloc (Nat.le_refl _) _
            have HB2 := Lib.hid (HB.out.trans (hba1.mono HB.out.size))
            have HM2 := Lib.hid (HM.out.grow hba1)
            clear hba1
            by_cases h0 : r.n = 0
            · have HE := Lib.hid (err_form HN.out HGO.out HGT.out (by simp [Smp.bad, Sp.s, h0]))
              rw [h0] at c0 HB2
              go_wp2
              go_ret2
              exact plan_bad HE.out (by decide) HB2.out
            · have e0 : (((r.n : Nat) : Int) == 0) = false := by simpa using h0
              have hnp : (0 : Int) < r.n := by omega
              obtain ⟨ba, oa, hA, hba, hca⟩ := hf.first (by omega)
              rw [hA] at c0 HB2 HM2
              have hba2 : ba < wr.heap.size := by have := HB.out.size; omega
              clear hf hA
              obtain ⟨t, ht⟩ : ∃ t, r.s.a0 = t := ⟨_, rfl⟩
              rw [ht] at hca
              by_cases ht0 : t.size = 0
              · have HE := Lib.hid (err_form HN.out HGO.out HGT.out (by simp [Smp.bad, ht, ht0]))
                have et : t.toList.isEmpty = true := by rw [text_empty]; simpa using ht0
                have HET := Lib.hid et
                clear et ht ht0
                go_upto_if 66 with (fail)
                rw [HET.out]
                go_wp2
                go_ret2
                exact plan_bad HE.out (by decide) HB2.out
              · have HNB : Hid (r.s.bad = false) := Lib.hid (by
                  have : r.s.n = r.n := rfl
                  simp [Smp.bad, ht, ht0, this, h0])
                have et : t.toList.isEmpty = false := by rw [text_empty]; simpa using ht0
                have HET := Lib.hid et
                clear et ht ht0
                go_upto_if 66 with (fail)
                rw [HET.out]
                go_wp2
                go_roundw
                case rel => exact ⟨j + 1, by go_num, by omega, fun m s hm hs => by
                  rcases (by omega : m < j ∨ m = j) with h | rfl
                  · exact HG.out m s h hs
                  · rw [HGT.out] at hs; injection hs with hs; rw [← hs]; exact HNB.out, HM2.out, HB2.out⟩
                case measure => simp [intOf]; omega
          · obtain rfl : j = n := by omega
            have HES := Lib.hid (err_end HN.out HGO.out (fun m s hs => HG.out m s (by
              have := (List.getElem?_eq_some_iff.1 hs).1
              simp at this; rw [← HL.out]; exact this) hs))
            have hS : (st0 os k).1 = opened (fun _ => false) os := by unfold st0; rw [← HO.out, List.take_length]
            rw [hS] at HM
            clear HG hS
            obtain ⟨m, hm, hmc⟩ := HM.out
            have hlen := hm.len Try.underlying59
            by_cases h4 : cnt (opened (fun _ => false) os) < 4
            · have HE : Hid (planErr j (rs.map Sp.s) os = 6) := Lib.hid (by rw [HES.out, if_pos h4])
              have hd4 : decide ((4 : Int) < m) = true := by simp; omega
              clear hm
              go_wp2
              go_ret2
              exact plan_bad HE.out (by decide) HB.out
            · have HE : Hid (planErr j (rs.map Sp.s) os = 0) := Lib.hid (by rw [HES.out, if_neg h4])
              have hd4 : decide ((4 : Int) < m) = false := by simp; omega
              have HI0 : Hid (Inv (-1) (opened (fun _ => false) os)) := Lib.hid ((plan_ok HE.out).2.2.2)
              clear hm h4 HES
              go_wp2_with fail
              have H0 : Hid (Ow W wr.heap.size (wr.heap.size + 1) W.heap.size k (opened (fun _ => false) os, []) ((wr.alloc (.cells #[.slice none 0 0] 24)).alloc (.cells #[.func (.func 19) #[] #[.pointer (some ⟨wr.heap.size, 0, none⟩)]] 60))) := Lib.hid (Ow.start HM.out HB.out)
              obtain ⟨W9, hW9⟩ : ∃ W9, W9 = wr := ⟨_, rfl⟩
              subst hW9
              obtain ⟨pd, hpd⟩ : ∃ pd, W9.heap.size + 1 = pd := ⟨_, rfl⟩
              obtain ⟨po, hpo⟩ : ∃ po, W9.heap.size = po := ⟨_, rfl⟩
              rw [hpd, hpo] at H0 ⊢
              have HP0 : Hid (Pr W j (rs.map Sp.s) os po pd W.heap.size k 0 (-1) _) := Lib.hid ⟨_, k, H0.out, rfl, by simp, fun _ => HI0.out, by omega⟩
              have HBW := HB
              clear hpd hpo H0 HM HB hmc hlen
              go_loopw [13, 74] (fun bfv i wr => ∃ (i' : Nat) (bf : Int), i = .int .i64 i' ∧ i' ≤ j ∧ bfv = .int .i64 bf ∧ Pr W j (rs.map Sp.s) os po pd W.heap.size k i' bf wr) (fun _ i _ => j - (intOf i).toNat)
              case atStart => exact ⟨0, -1, rfl, by omega, rfl, HP0.out⟩
              case round =>
                obtain ⟨i, bf, rfl, hi, rfl, q, nb, hO, hgo, hl1, hin, hnb⟩ := hrel
                clear HP0 HBW
                have HGO := Lib.hid hgo
                have HO1 := Lib.hid hO
                clear hgo hO
                have hn6 : j ≤ 6 := by have := HN.out; omega
                by_cases hlt : i < j
                · have HI := Lib.hid (hin hlt)
                  clear hin
                  obtain ⟨b, o, rfl, hb, hf, hget, c0, c1, c2, c3⟩ := (h.below' HO1.out.below (Nat.le_refl _)).at_ hlt
                  obtain ⟨r, hr⟩ : ∃ r, rs.getD i Sp.zero = r := ⟨_, rfl⟩
                  rw [hr] at hf hget c0 c1 c2 c3
                  have HF : Hid (r.Fine W W.heap.size) := Lib.hid (h.2 r (List.mem_of_getElem? hget))
                  have HRN : Hid (0 < r.n) := Lib.hid (by
                    have hb := (plan_ok HE.out).2.2.1 r.s (List.mem_map.2 ⟨r, List.mem_of_getElem? hget, rfl⟩)
                    rcases Nat.eq_zero_or_pos r.n with h0 | h0
                    · simp [Smp.bad, Sp.s, h0] at hb
                    · exact h0)
                  have HDR : Hid ((rs.map Sp.s).drop i = r.s :: (rs.map Sp.s).drop (i + 1)) := Lib.hid (by
                    have hkl : i < (rs.map Sp.s).length := by simpa [HL.out] using hlt
                    rw [List.drop_eq_getElem_cons hkl]
                    have e1 := (List.getElem?_eq_some_iff.1 hget).2
                    congr 1
                    simp [e1])
                  clear hf hget hr
                  have hkn : (i : Int) < j := by omega
                  have hbw : b < wr.heap.size := by have := HO1.out.below.size; omega
                  have HO2 := Lib.hid (HO1.out.alloc (.cells (smV r) 49))
                  have HSM : Hid (Blk (wr.alloc (.cells #[.slice r.A r.n r.c, .string r.sin, .string r.sout, .bool r.more] 49)) wr.heap.size (smV r) 49) := Lib.hid (Blk.new wr (smV r) 49)
                  unfold smV at HO2
                  obtain ⟨kb, hkb⟩ : ∃ kb, wr.heap.size = kb := ⟨_, rfl⟩
                  obtain ⟨d, hdd⟩ : ∃ d, ((i : Int) == (j : Int) - 1) = d := ⟨_, rfl⟩
                  go_upto_if 85 with (fail)
                  have HDD := Lib.hid hdd
                  clear hdd
                  rw [hkb] at HSM
                  clear hkb c0 c1 c2 c3
                  generalize (wr.alloc (.cells #[.slice r.A r.n r.c, .string r.sin, .string r.sout, .bool r.more] 49)) = wA at *
                  go_cut [16, 17, 18, 84, 85] (fun _ s17 s18 _ _ wx => ∃ rr ww q1 nb', s17 = .int .i64 rr ∧ s18 = .int .i64 ww ∧ Ow W po pd W.heap.size nb' q1 wx ∧ Blk wx kb (smV r) 49 ∧ Mid j (rs.map Sp.s) i r.s bf q rr ww q1 ∧ nb' ≤ nb + 2)
                  case first =>
                    cases d
                    · have hmid : i + 1 < j := by have := HDD.out; simp at this; omega
                      have HMD := Lib.hid (mid_of HDR.out hmid HI.out)
                      obtain ⟨⟨r0, r1, r2⟩, -⟩ := HI.out.mid
                      have h3c := HI.out.two
                      have hct := cnt_take ⟨r0, r1⟩ r2
                      obtain ⟨y1, y1l⟩ := HO2.out.cells
                      clear r2
                      go_wp2_with fail
                      refine (HO2.out.dos (by omega)).mono ?_
                      rintro e w1 ⟨rfl, h1, hk1⟩
                      have s1 := hk1 _ _ _ HSM.out (by decide) (by decide)
                      clear y1 y1l hk1
                      go_wp2_with fail
                      refine (h1.free (by dsimp only; omega) (by omega)).mono ?_
                      rintro e w2 ⟨rfl, h2, hk2⟩
                      have s2 := hk2 _ _ _ s1
                      clear h1 hk2 s1
                      go_wp2_with fail
                      refine (h2.free (by simp only [takeF]; omega) (by omega)).mono ?_
                      rintro e w3 ⟨rfl, h3, hk3⟩
                      have H3 : Hid (Ow W po pd W.heap.size (nb + 2) (pipeF q) w3) := Lib.hid h3
                      have S3 := Lib.hid (hk3 _ _ _ s2)
                      clear h2 hk3 s2 h3
                      go_wp2
                      go_meet
                      exact ⟨_, _, pipeF q, nb + 2, rfl, rfl, H3.out, S3.out, HMD.out, Nat.le_refl _⟩
                    · have hmid : ¬ i + 1 < j := by have := HDD.out; rw [beq_iff_eq] at this; omega
                      have HMD := Lib.hid (end_of HDR.out hmid HI.out)
                      go_wp2
                      go_meet
                      exact ⟨_, _, q, nb, rfl, rfl, HO2.out, HSM.out, HMD.out, by omega⟩
                  case rest =>
                    obtain ⟨rr, ww, q1, nb', rfl, rfl, h1, s1, hMD, hnb'⟩ := hcut
                    rename World => wB
                    have HMD := Lib.hid hMD
                    have hl1' := HMD.out.l1
                    clear hMD HSM HO2
                    obtain ⟨y1, y1l⟩ := h1.cells
                    go_wp2_with fail
                    refine (h1.dos (by omega)).mono ?_
                    rintro e w2 ⟨rfl, h2', hk2⟩
                    have h2 : Ow W po pd W.heap.size nb' (forkF q1) w2 := h2'
                    have s2 := hk2 _ _ _ s1 (by decide) (by decide)
                    have hlf : (forkF q1).2.length = q1.2.length + 1 := by simp [forkF]
                    obtain ⟨w3, hrunR, mm, lc, hC⟩ := h2.copy s2 ((i : Int) + 1)
                    unfold cpW at hrunR
                    clear y1 y1l h1 s1 hk2 h2' h2 s2
                    have HC := Lib.hid hC
                    clear hC
                    go_wp2_with fail
                    obtain ⟨ph, hph⟩ : ∃ x, w2.heap.size + 1 + 1 = x := ⟨_, rfl⟩
                    obtain ⟨ri, hri⟩ : ∃ x, ph + 1 = x := ⟨_, rfl⟩
                    obtain ⟨bh, hbh⟩ : ∃ x, w2.heap.size + 1 = x := ⟨_, rfl⟩
                    obtain ⟨pm, hpm⟩ : ∃ x, w2.heap.size = x := ⟨_, rfl⟩
                    rw [hph, hri, hbh, hpm] at HC ⊢
                    clear hph hri hbh hpm hrunR
                    obtain ⟨W8, hW8⟩ : ∃ W8, W8 = wr := ⟨_, rfl⟩
                    subst hW8
                    go_loopw [21] (fun _ wr => ∃ left lc n', Cpy W po ph pd pm bh W.heap.size nb' kb ri mm ((i : Int) + 1) r q1.1 (forkF q1).2 left lc n' wr) (fun _ wr => wr.rangeLeft W.heap.size ri)
                    case atStart => exact ⟨_, lc, 0, HC.out⟩
                    case round =>
                      obtain ⟨left, lc1, n1', hC1⟩ := hrel
                      clear HC
                      rcases hC1.step with ⟨hl0, hrun⟩ | ⟨x, w5, w6, left', lc', hrun, hen, hcl, hpl, hup, hC2, hlt2⟩
                      · have HK := Lib.hid (show Kid W po ph pd pm wr.heap.size bh W.heap.size nb' kb ((i : Int) + 1) r q1.1 n1' (forkF q1) _ from hC1.kid hl0)
                        have h8 := hC1.size8
                        clear hC1
                        go_wp2_with fail
                        unfold shF at HK
                        obtain ⟨ps, hps⟩ : ∃ x, wr.heap.size = x := ⟨_, rfl⟩
                        rw [hps] at HK ⊢
                        clear hps hrun
                        generalize (wr.alloc (.cells #[.func (.func 21) #[] #[.pointer (some ⟨ph, 0, none⟩), .pointer (some ⟨pd, 0, none⟩), .pointer (some ⟨pm, 0, none⟩)]] 53)) = wK at *
                        obtain ⟨me, hme⟩ : ∃ x, (i : Int) + 1 = x := ⟨_, rfl⟩
                        have HME := Lib.hid hme
                        rw [hme] at HK ⊢
                        clear hme
                        have hq1 := HMD.out.low
                        have hb8 := HMD.out.b8
                        have hr8 := HMD.out.r8
                        have hw8 := HMD.out.w8
                        have hlA := shutF_len me rr (forkF q1)
                        have hlB := turnF_len me bf 0 (shutF me rr (forkF q1))
                        have hlC := linkF_len me bf ww rr (forkF q1)
                        have hq3 := linkF_low (me := me) (inn := bf) (out := ww) (other := rr) (q := forkF q1) hq1
                        refine (HK.out.shut (by omega) hr8).mono ?_
                        rintro e k1 ⟨rfl, h1⟩
                        clear HK
                        obtain ⟨⟨y1, y1l⟩, ⟨y2, y2l⟩, ⟨y3, y3l⟩, ⟨y4, y4l⟩, z0, z1, z2, z3, zl⟩ := h1.cells
                        go_wp2_with fail
                        refine (h1.move (by omega) hb8 (by omega) (by omega)).mono ?_
                        rintro e k2 ⟨rfl, h2⟩
                        clear y1 y1l y2 y2l y3 y3l y4 y4l z0 z1 z2 z3 zl
                        clear h1
                        obtain ⟨⟨y1, y1l⟩, ⟨y2, y2l⟩, ⟨y3, y3l⟩, ⟨y4, y4l⟩, z0, z1, z2, z3, zl⟩ := h2.cells
                        go_wp2_with fail
                        refine (h2.move (by omega) hw8 (by omega) (by omega)).mono ?_
                        rintro e k3 ⟨rfl, h3'⟩
                        have h3 : Kid W po ph pd pm ps bh W.heap.size nb' kb me r q1.1 (n1' + 1 + 1) (linkF me bf ww rr (forkF q1)) k3 := h3'
                        clear y1 y1l y2 y2l y3 y3l y4 y4l z0 z1 z2 z3 zl
                        clear h2 h3'
                        have HE2 : Hid ((childF me r.s bf ww rr (forkF q1)).2 = (outF me r.s (inF me r.s (linkF me bf ww rr (forkF q1)))).2 ++ [⟨me, 3, 0, 0, 0, r.s.a0⟩]) := Lib.hid rfl
                        generalize linkF me bf ww rr (forkF q1) = q3 at *
                        obtain ⟨⟨y1, y1l⟩, ⟨y2, y2l⟩, ⟨y3, y3l⟩, ⟨y4, y4l⟩, z0, z1, z2, z3, zl⟩ := h3.cells
                        go_upto_if 118 with (fail)
                        have H3 := Lib.hid h3
                        clear y1 y1l y2 y2l y3 y3l y4 y4l z0 z1 z2 z3 zl
                        clear h3
                        go_cut [118] (fun _ wx => ∃ n2, Kid W po ph pd pm ps bh W.heap.size nb' kb me r q1.1 n2 (inF me r.s q3) wx ∧ n2 ≤ 14)
                        case first =>
                          by_cases hin : r.sin.size = 0
                          · have e1 : (!r.sin.toList.isEmpty) = false := by rw [text_empty]; simpa using hin
                            rw [e1]
                            have HI2 : Hid (inF me r.s q3 = q3) := Lib.hid (by unfold inF; exact if_pos hin)
                            clear e1 hin
                            go_wp2
                            go_meet
                            exact ⟨n1' + 1 + 1, by rw [HI2.out]; exact H3.out, by omega⟩
                          · have e1 : (!r.sin.toList.isEmpty) = true := by rw [text_empty]; simpa using hin
                            rw [e1]
                            have HI2 : Hid (inF me r.s q3 = fileF me r.sin 0 1 0 q3) := Lib.hid (by unfold inF; exact if_neg hin)
                            have hlS := shutF_len me 0 q3
                            have hqS := shutF_low (me := me) (n := 0) hq3
                            have hcS : 1 ≤ cnt (shutF me 0 q3).1 := shutF_cnt (by omega)
                            clear e1 hin
                            have h3 := H3.out
                            obtain ⟨⟨y1, y1l⟩, ⟨y2, y2l⟩, ⟨y3, y3l⟩, ⟨y4, y4l⟩, z0, z1, z2, z3, zl⟩ := h3.cells
                            go_wp2_with fail
                            refine (h3.shut (by omega) (by omega)).mono ?_
                            rintro e k4 ⟨rfl, h4⟩
                            clear y1 y1l y2 y2l y3 y3l y4 y4l z0 z1 z2 z3 zl
                            clear h3
                            obtain ⟨⟨y1, y1l⟩, ⟨y2, y2l⟩, ⟨y3, y3l⟩, ⟨y4, y4l⟩, z0, z1, z2, z3, zl⟩ := h4.cells
                            go_wp2_with fail
                            refine (h4.dos (by omega)).mono ?_
                            rintro e k5 ⟨rfl, h5⟩
                            clear y1 y1l y2 y2l y3 y3l y4 y4l z0 z1 z2 z3 zl
                            clear h4
                            obtain ⟨⟨y1, y1l⟩, ⟨y2, y2l⟩, ⟨y3, y3l⟩, ⟨y4, y4l⟩, z0, z1, z2, z3, zl⟩ := h5.cells
                            go_wp2_with fail
                            refine (h5.free hcS (by omega)).mono ?_
                            rintro e k6 ⟨rfl, h6⟩
                            clear y1 y1l y2 y2l y3 y3l y4 y4l z0 z1 z2 z3 zl
                            clear h5
                            obtain ⟨⟨y1, y1l⟩, ⟨y2, y2l⟩, ⟨y3, y3l⟩, ⟨y4, y4l⟩, z0, z1, z2, z3, zl⟩ := h6.cells
                            go_wp2_with fail
                            refine (h6.move (by simp [takeF]; omega) (lst_is hcS).2.1 (by omega) (by omega)).mono ?_
                            rintro e k7 ⟨rfl, h7⟩
                            have H7 : Hid (Kid W po ph pd pm ps bh W.heap.size nb' kb me r q1.1 (n1' + 1 + 1 + 1 + 1) (inF me r.s q3) k7) := Lib.hid (by rw [HI2.out]; exact h7)
                            clear y1 y1l y2 y2l y3 y3l y4 y4l z0 z1 z2 z3 zl
                            clear h6 h7
                            go_wp2
                            go_meet
                            exact ⟨_, H7.out, by omega⟩
                        case rest =>
                          obtain ⟨n2, h4, hn2⟩ := hcut
                          rename World => k8
                          have hl4 := inF_len me r.s q3
                          have hq4 := inF_low (me := me) (s := r.s) hq3
                          clear H3
                          generalize inF me r.s q3 = q4 at *
                          obtain ⟨⟨y1, y1l⟩, ⟨y2, y2l⟩, ⟨y3, y3l⟩, ⟨y4, y4l⟩, z0, z1, z2, z3, zl⟩ := h4.cells
                          go_upto_if 132 with (fail)
                          have H4 := Lib.hid h4
                          clear y1 y1l y2 y2l y3 y3l y4 y4l z0 z1 z2 z3 zl
                          clear h4
                          go_cut [132] (fun _ wx => ∃ n3, Kid W po ph pd pm ps bh W.heap.size nb' kb me r q1.1 n3 (outF me r.s q4) wx ∧ n3 ≤ 20)
                          case first =>
                            by_cases hout : r.sout.size = 0
                            · have e1 : (!r.sout.toList.isEmpty) = false := by rw [text_empty]; simpa using hout
                              rw [e1]
                              have HI2 : Hid (outF me r.s q4 = q4) := Lib.hid (by unfold outF; exact if_pos hout)
                              clear e1 hout
                              go_wp2
                              go_meet
                              exact ⟨n2, by rw [HI2.out]; exact H4.out, by omega⟩
                            · have e1 : (!r.sout.toList.isEmpty) = true := by rw [text_empty]; simpa using hout
                              rw [e1]
                              obtain ⟨mo, hmo⟩ : ∃ m, r.more = m := ⟨_, rfl⟩
                              have HI2 : Hid (outF me r.s q4 = fileF me r.sout 1 2 (if mo then 9 else 5) q4) := Lib.hid (by unfold outF; rw [if_neg (show ¬ r.s.sout.size = 0 from hout), show r.s.more = mo from hmo]; rfl)
                              have HMO := Lib.hid hmo
                              have hlS := shutF_len me 1 q4
                              have hqS := shutF_low (me := me) (n := 1) hq4
                              have hcS : 1 ≤ cnt (shutF me 1 q4).1 := shutF_cnt (by omega)
                              clear e1 hout hmo
                              have h3 := H4.out
                              obtain ⟨⟨y1, y1l⟩, ⟨y2, y2l⟩, ⟨y3, y3l⟩, ⟨y4, y4l⟩, z0, z1, z2, z3, zl⟩ := h3.cells
                              go_wp2_with fail
                              refine (h3.shut (by omega) (by omega)).mono ?_
                              rintro e k4 ⟨rfl, h4⟩
                              clear y1 y1l y2 y2l y3 y3l y4 y4l z0 z1 z2 z3 zl
                              clear h3
                              obtain ⟨⟨y1, y1l⟩, ⟨y2, y2l⟩, ⟨y3, y3l⟩, ⟨y4, y4l⟩, z0, z1, z2, z3, zl⟩ := h4.cells
                              rw [HMO.out] at z3
                              cases mo
                              all_goals
                                go_wp2_with fail
                                refine (h4.dos (by omega)).mono ?_
                                rintro e k5 ⟨rfl, h5⟩
                                clear y1 y1l y2 y2l y3 y3l y4 y4l z0 z1 z2 z3 zl
                                clear h4
                                obtain ⟨g5, o5, c5, p0, p0l, gl, gf, ⟨u5, gu⟩, hmk⟩ := h5.mark
                                obtain ⟨⟨y1, y1l⟩, ⟨y2, y2l⟩, ⟨y3, y3l⟩, ⟨y4, y4l⟩, z0, z1, z2, z3, zl⟩ := h5.cells
                                have HK5 := Lib.hid (hmk 438)
                                clear h5 hmk
                                obtain ⟨z5, hz5⟩ : ∃ z, (shutF me 1 q4).2.length = z := ⟨_, rfl⟩
                                rw [hz5] at p0 gf gu HK5
                                have hz5' : (z5 : Int) < (z5 : Int) + 1 := by omega
                                have hz56 : z5 ≤ 9000 := by omega
                                clear hz5
                                go_wp2_with fail
                                refine (HK5.out.free hcS (by omega)).mono ?_
                                rintro e k6 ⟨rfl, h6⟩
                                clear y1 y1l y2 y2l y3 y3l y4 y4l z0 z1 z2 z3 zl
                                clear p0 p0l gl gf gu HK5
                                obtain ⟨⟨y1, y1l⟩, ⟨y2, y2l⟩, ⟨y3, y3l⟩, ⟨y4, y4l⟩, z0, z1, z2, z3, zl⟩ := h6.cells
                                go_wp2_with fail
                                refine (h6.move (by simp [takeF]; omega) (lst_is hcS).2.1 (by omega) (by omega)).mono ?_
                                rintro e k7 ⟨rfl, h7⟩
                                have H7 : Hid (Kid W po ph pd pm ps bh W.heap.size nb' kb me r q1.1 (n2 + 1 + 1) (outF me r.s q4) k7) := Lib.hid (by rw [HI2.out]; exact h7)
                                clear y1 y1l y2 y2l y3 y3l y4 y4l z0 z1 z2 z3 zl
                                clear h6 h7
                                go_wp2
                                go_meet
                                exact ⟨_, H7.out, by omega⟩
                          case rest =>
                            obtain ⟨n3, h5, hn3⟩ := hcut
                            rename World => k9
                            have hl5 := outF_len me r.s q4
                            clear H4
                            generalize outF me r.s q4 = q5 at *
                            obtain ⟨ba, oa, hA, hba, hca⟩ := HF.out.first HRN.out
                            have hw0 := (h5.below.cell (p := ⟨ba, oa, none⟩) hba).trans hca
                            have hbk : ba < k9.heap.size := by have := h5.below.size; omega
                            obtain ⟨⟨y1, y1l⟩, ⟨y2, y2l⟩, ⟨y3, y3l⟩, ⟨y4, y4l⟩, z0, z1, z2, z3, zl⟩ := h5.cells
                            rw [hA] at z0
                            have hnp : (0 : Int) < r.n := by have := HRN.out; omega
                            have H5 := Lib.hid h5
                            clear h5 hA hca
                            go_wp2_with fail
                            refine wp_region_walk (fun w' => w' = k9.drew ∧ True) [[], [], [], [(160, 2)], [(161, 3)], [(162, 4)]]
                              [(158, 0), (159, 1), (160, 2), (161, 3), (162, 4), (163, 5)] (by kernel_rfl) (by kernel_rfl) (by kernel_rfl) ⟨rfl, trivial⟩ ?_
                            apply Flow.det_step
                            · go_light
                              intro w1 hC1
                              simp only [Flow.fill, Flow.after, Flow.at_, List.nil_append, List.cons_append, List.getD_cons_zero, List.getD_cons_succ, det, forall_eq, List.setIfInBounds_toArray, List.set_cons_zero, List.set_cons_succ, List.drop, List.length]
                              obtain ⟨rfl, -⟩ := hC1
                              go_wp2
                              exact Flow.post_det ⟨rfl, trivial⟩ (Grow.refl _) rfl rfl
                            apply Flow.det_step
                            · go_light
                              intro w1 hC1
                              simp only [Flow.fill, Flow.after, Flow.at_, List.nil_append, List.cons_append, List.getD_cons_zero, List.getD_cons_succ, det, forall_eq, List.setIfInBounds_toArray, List.set_cons_zero, List.set_cons_succ, List.drop, List.length]
                              obtain ⟨rfl, -⟩ := hC1
                              go_wp2
                              exact Flow.post_det ⟨rfl, trivial⟩ (Grow.refl _) rfl rfl
                            apply Flow.det_step
                            · go_light
                              intro w1 hC1
                              simp only [Flow.fill, Flow.after, Flow.at_, List.nil_append, List.cons_append, List.getD_cons_zero, List.getD_cons_succ, det, forall_eq, List.setIfInBounds_toArray, List.set_cons_zero, List.set_cons_succ, List.drop, List.length]
                              obtain ⟨rfl, -⟩ := hC1
                              go_wp2
                              exact Flow.post_det ⟨rfl, trivial⟩ (Grow.refl _) rfl rfl
                            apply Flow.det_step
                            · go_light
                              intro w1 hC1
                              simp only [Flow.fill, Flow.after, Flow.at_, List.nil_append, List.cons_append, List.getD_cons_zero, List.getD_cons_succ, det, forall_eq, List.setIfInBounds_toArray, List.set_cons_zero, List.set_cons_succ, List.drop, List.length]
                              obtain ⟨rfl, -⟩ := hC1
                              go_wp2
                              exact Flow.post_det ⟨rfl, trivial⟩ (Grow.refl _) rfl rfl
                            apply Flow.det_step
                            · go_light
                              intro w1 hC1
                              simp only [Flow.fill, Flow.after, Flow.at_, List.nil_append, List.cons_append, List.getD_cons_zero, List.getD_cons_succ, det, forall_eq, List.setIfInBounds_toArray, List.set_cons_zero, List.set_cons_succ, List.drop, List.length]
                              obtain ⟨rfl, -⟩ := hC1
                              go_wp2
                              exact Flow.post_det ⟨rfl, trivial⟩ (Grow.refl _) rfl rfl
                            apply Flow.det_step
                            · go_light
                              intro w1 hC1
                              simp only [Flow.fill, Flow.after, Flow.at_, List.nil_append, List.cons_append, List.getD_cons_zero, List.getD_cons_succ, det, forall_eq, List.setIfInBounds_toArray, List.set_cons_zero, List.set_cons_succ, List.drop, List.length]
                              obtain ⟨rfl, -⟩ := hC1
                              go_wp2
                              exact Flow.post_det ⟨rfl, trivial⟩ (Grow.refl _) rfl rfl
                            intro w1 hC1
                            simp only [Flow.fill, Flow.after, Flow.at_, List.nil_append, List.cons_append, List.getD_cons_zero, List.getD_cons_succ, det, forall_eq, List.setIfInBounds_toArray, List.set_cons_zero, List.set_cons_succ, List.drop, List.length]
                            obtain ⟨rfl, -⟩ := hC1

                            go_wp2_with fail
                            refine (H5.out.drew.dos (by omega)).mono ?_
                            rintro e k10 ⟨rfl, h10⟩
                            clear y1 y1l y2 y2l y3 y3l y4 y4l z0 z1 z2 z3 zl
                            clear hw0 H5
                            have H10 : Hid (Ow W po pd W.heap.size nb' (q1.1, (childF me r.s bf ww rr (forkF q1)).2) k10) := Lib.hid (by rw [HE2.out]; exact h10.own)
                            clear h10
                            have hl9 := childF_len me r.s bf ww rr (forkF q1)
                            obtain ⟨l9, hll⟩ : ∃ l, (childF me r.s bf ww rr (forkF q1)).2 = l := ⟨_, rfl⟩
                            rw [hll] at H10 hl9
                            have HL9 := Lib.hid hll
                            clear hll HE2
                            go_wp2_with fail
                            have HE0 : Hid (Ow W po pd W.heap.size nb' (clo bf ww (q1.1, l9) 0) (k10.alloc (.cells #[.int .i64 bf, .int .i64 ww] 3))) := Lib.hid (H10.out.alloc _)
                            have HEB : Hid (Blk (k10.alloc (.cells #[.int .i64 bf, .int .i64 ww] 3)) k10.heap.size #[.int .i64 bf, .int .i64 ww] 3) := Lib.hid (Blk.new _ _ _)
                            obtain ⟨eb, heb⟩ : ∃ x, k10.heap.size = x := ⟨_, rfl⟩
                            rw [heb] at HEB ⊢
                            clear heb H10
                            generalize (k10.alloc (.cells #[.int .i64 bf, .int .i64 ww] 3)) = wE at *
                            obtain ⟨W7, hW7⟩ : ∃ W7, W7 = wr := ⟨_, rfl⟩
                            subst hW7
                            go_loopw [169] (fun i' wr => ∃ e : Nat, i' = .int .i64 e ∧ e ≤ 2 ∧ Ow W po pd W.heap.size nb' (clo bf ww (q1.1, l9) e) wr ∧ Blk wr eb #[.int .i64 bf, .int .i64 ww] 3) (fun i' _ => 2 - (intOf i').toNat)
                            case atStart => exact ⟨0, rfl, by omega, HE0.out, HEB.out⟩
                            case round =>
                              obtain ⟨e, rfl, he, hO, hE⟩ := hrel
                              clear HE0 HEB
                              have HO := Lib.hid hO
                              have HEE := Lib.hid hE
                              have hebl := hE.lt
                              have hev : wr.cell? ⟨eb, 0 + e, none⟩ = some (.int .i64 (endsV bf ww e)) ∨ ¬ e < 2 := by
                                by_cases h2 : e < 2
                                · left
                                  rw [Nat.zero_add, hE.cell]
                                  rcases (by omega : e = 0 ∨ e = 1) with rfl | rfl <;> rfl
                                · exact .inr h2
                              have hln := clo_len bf ww (q1.1, l9) e
                              clear hO hE
                              by_cases he2 : e < 2
                              · have hev2 := hev.resolve_right (fun hh => hh he2)
                                rw [Nat.zero_add] at hev2
                                have he2' : (e : Int) < 2 := by omega
                                have hcl := clo_step HMD.out l9 he2
                                clear hev
                                generalize endsV bf ww e = x at *
                                rcases hcl with ⟨hx, hce⟩ | ⟨hx0, hx8, hxS, hce⟩
                                · have hdx : decide (0 ≤ x) = false := by simp; omega
                                  have HCE := Lib.hid hce
                                  clear hce
                                  go_wp2
                                  go_roundw
                                  case rel => exact ⟨e + 1, by go_num, by omega, by rw [HCE.out]; exact HO.out, HEE.out⟩
                                  case measure => simp [intOf]; omega
                                · have hdx : decide (0 ≤ x) = true := by simp; omega
                                  have HCE := Lib.hid hce
                                  have HXS := Lib.hid hxS
                                  clear hce hxS
                                  obtain ⟨y1, y1l⟩ := HO.out.cells
                                  go_wp2_with fail
                                  refine (HO.out.dos (by first | omega | (dsimp only at hln; omega))).mono ?_
                                  rintro e' k11 ⟨rfl, hO1, hk1⟩
                                  obtain ⟨k12, hrunD, hO2, hk2⟩ := hO1.delete ⟨hx0, hx8⟩ HXS.out
                                  have HE2 := Lib.hid (hk2 _ _ _ (hk1 _ _ _ HEE.out (by decide) (by decide)))
                                  have HO2 : Hid (Ow W po pd W.heap.size nb' (clo bf ww (q1.1, l9) (e + 1)) k12) := Lib.hid (by rw [HCE.out]; exact hO2)
                                  clear hO1 hO2 hk1 hk2 y1 y1l
                                  go_wp2
                                  go_roundw
                                  case rel => exact ⟨e + 1, by go_num, by omega, HO2.out, HE2.out⟩
                                  case measure => simp [intOf]; omega
                              · obtain rfl : e = 2 := by omega
                                have HPR : Hid (Pr W j (rs.map Sp.s) os po pd W.heap.size k (i + 1) rr wr) := Lib.hid (by
                                  have hn := HMD.out.next
                                  have hv := HMD.out.inv
                                  have hz := HMD.out.len
                                  rw [HME.out, HL9.out] at hn hv hz
                                  exact ⟨_, nb', HO.out, HGO.out.trans hn, Nat.le_trans hz (by omega), hv, by omega⟩)
                                clear hev hln hebl
                                go_wp2
                                go_roundw
                                case rel => exact ⟨i + 1, rr, by go_num, by omega, rfl, HPR.out⟩
                                case measure => simp [intOf]; omega
                      · have HC1 := Lib.hid hC1
                        have HC2 := Lib.hid hC2
                        clear hC1 hC2
                        go_wp2
                        go_roundw
                        case rel => exact ⟨left', lc', n1' + 1, HC2.out⟩
                        case measure => rw [HC2.out.left_eq, HC1.out.left_eq]; exact hlt2
                · obtain rfl : i = j := by omega
                  have hdn : (rs.map Sp.s).drop i = [] := by rw [List.drop_eq_nil_iff]; simp [HL.out]
                  rw [hdn] at HGO
                  have HF : Hid (goF i (rs.map Sp.s) 0 (-1) (opened (fun _ => false) os, []) = q) := HGO
                  clear hdn HGO hin
                  have H2 : Hid (Ow W po pd W.heap.size nb (q.1, q.2 ++ List.replicate 0 (stp 0 4 0 0)) wr) := Lib.hid (by have := HO1.out; simpa using this)
                  clear HO1
                  go_wp2_with fail
                  go_loopw [185] (fun i' w2 => ∃ e : Nat, i' = .int .i64 e ∧ e ≤ i ∧ Ow W po pd W.heap.size nb (q.1, q.2 ++ List.replicate e (stp 0 4 0 0)) w2) (fun i' _ => i - (intOf i').toNat)
                  case atStart => exact ⟨0, rfl, by omega, H2.out⟩
                  case round =>
                    obtain ⟨e, rfl, he, hO⟩ := hrel
                    clear H2
                    have HO := Lib.hid hO
                    clear hO
                    by_cases hjk : e < i
                    · have hjk' : (e : Int) < i := by omega
                      obtain ⟨y1, y1l⟩ := HO.out.cells
                      go_wp2_with fail
                      refine (HO.out.dos (by simp; omega)).mono ?_
                      rintro e' w3 ⟨rfl, hO3, -⟩
                      have HO3 : Hid (Ow W po pd W.heap.size nb (q.1, q.2 ++ List.replicate (e + 1) (stp 0 4 0 0)) w3) := Lib.hid (by
                        have e1 : q.2 ++ List.replicate (e + 1) (stp 0 4 0 0) = q.2 ++ List.replicate e (stp 0 4 0 0) ++ [stp 0 4 0 0] := by rw [List.replicate_succ', List.append_assoc]
                        rw [e1]; exact hO3)
                      clear hO3 y1 y1l
                      go_wp2
                      go_roundw
                      case rel => exact ⟨e + 1, by go_num, by omega, HO3.out⟩
                      case measure => simp [intOf]; omega
                    · obtain rfl : e = i := by omega
                      obtain ⟨v9, hv9⟩ := HO.out.rs
                      obtain ⟨m9, hm9⟩ : ∃ m, (q.2 ++ List.replicate e (stp 0 4 0 0)).length = m := ⟨_, rfl⟩
                      have hrow := hv9.row
                      dsimp only at hrow
                      rw [hm9] at hrow
                      obtain ⟨A9, c9, rfl, -, -⟩ := hrow.shape
                      have HR9 := Lib.hid hrow
                      have HM9 := Lib.hid hm9
                      have p0 := hv9.ob.cell 0
                      have hlp := hv9.ob.lt
                      dsimp at p0
                      clear hrow hm9 hv9
                      go_wp2
                      go_ret2
                      refine ⟨HO.out.below, A9, m9, c9, by rw [HE.out]; rfl, ?_⟩
                      rw [if_pos HE.out]
                      have e1 : planL e (rs.map Sp.s) os = q.2 ++ List.replicate e (stp 0 4 0 0) := by unfold planL; rw [HF.out]
                      rw [e1]
                      exact ⟨HR9.out.reads, HM9.out⟩
end Go.Proofs.Ytjeclmkdojnflaa
