/- Contract of Plan. -/
import Derived.Test.YtjeclmkdojnflaaPlF
import Derived.Deep.RegionWith
namespace Go.Proofs.Ytjeclmkdojnflaa
open Go.RowKit
set_option maxHeartbeats 400000
set_option linter.unusedVariables false
set_option linter.unusedSimpArgs false
/-- The shell's own between its steps; a command in block kb. -/
structure Ps (W : World) (g p kb : Nat) (r : Sp) (q : Pst) (w : World) : Prop where
  mkr : ∃ v, Mk w W.heap.size g p v 0 q
  below : Below W.heap.size W w
  sm : Blk w kb #[.slice r.A r.n r.c, .string r.sin, .string r.sout, .bool r.more] 49
theorem Ps.of {W w w' : World} {g p kb : Nat} {r : Sp} {q qx : Pst} {v : Value} (h : Ps W g p kb r q w) (m : Mk w W.heap.size g p v 0 q) (hG : MGo w W.heap.size g p v 0 qx w') : Ps W g p kb r qx w' := by
  obtain ⟨v1, m1, f1, o1⟩ := hG
  exact ⟨⟨v1, m1⟩, h.below.trans (f1.below h.below.size m.lowF), m.keep h.sm (by decide) (by decide) (by decide) f1⟩
namespace Ps
variable {W w : World} {g p kb : Nat} {r : Sp} {q : Pst}
theorem step (h : Ps W g p kb r q w) {num a b d : Int} {name : ByteArray} (hl : q.2.length ≤ 10000) :
    Calls Try.prog 15 #[.pointer (some ⟨g, 0, none⟩), .agg #[.int .i64 num, .int .i64 a, .int .i64 b, .int .i64 d, .string name, .string ByteArray.empty, .slice none 0 0]] w fun e w' => e = .returned (.tuple #[]) ∧ Ps W g p kb r (q.1, q.2 ++ [⟨0, num, a, b, d, name⟩]) w' := by
  obtain ⟨v, m⟩ := h.mkr
  refine (step_any w _ g p v 0 q num a b d name m hl).mono ?_
  rintro e w' ⟨rfl, hG⟩
  exact ⟨rfl, h.of m hG⟩
theorem least (h : Ps W g p kb r q w) (hq : 1 ≤ cnt q.1) : Calls Try.prog 16 #[.pointer (some ⟨g, 0, none⟩)] w fun e w' => e = .returned (.int .i64 (lst q.1)) ∧ Ps W g p kb r (takeF q) w' := by
  obtain ⟨v, m⟩ := h.mkr
  refine (least_any w _ g p v 0 q m hq).mono ?_
  rintro e w' ⟨rfl, hG⟩
  exact ⟨rfl, h.of m hG⟩
theorem shut (h : Ps W g p kb r q w) {n : Int} (hl : q.2.length ≤ 9000) (hq : Low q.1) (hn : n < 8) : Calls Try.prog 18 #[.pointer (some ⟨g, 0, none⟩), .int .i64 n] w fun e w' => e = .returned (.tuple #[]) ∧ Ps W g p kb r (shutF 0 n q) w' := by
  obtain ⟨v, m⟩ := h.mkr
  refine (shut_any w _ g p v 0 n q m hl hq hn).mono ?_
  rintro e w' ⟨rfl, hG⟩
  exact ⟨rfl, h.of m hG⟩
theorem child (h : Ps W g p kb r q w) {me inn out other : Int} (hf : r.Fine W W.heap.size) (h0 : 0 < r.n) (hl : q.2.length ≤ 7000) (hq : Low q.1) (hi : inn < 8) (ho : out < 8) (hot : other < 8) :
    Calls Try.prog 17 #[.agg (mkC p 0 q.1), .int .i64 me, .agg #[.slice r.A r.n r.c, .string r.sin, .string r.sout, .bool r.more], .int .i64 inn, .int .i64 out, .int .i64 other] w fun e w' => e = .returned (.tuple #[]) ∧ Ps W g p kb r (q.1, (childF me r.s inn out other q).2) w' := by
  obtain ⟨v, m⟩ := h.mkr
  refine (child_any w W.heap.size g p v 0 me inn out other r.A r.n r.c r.ts r.s q m ⟨hf.1.below' h.below (Nat.le_refl _), rfl, rfl, h0⟩ hf.2 hl hq hi ho hot).mono ?_
  rintro e w' ⟨rfl, v1, m1, f1, o1⟩
  refine ⟨rfl, ⟨v1, m1⟩, h.below.trans (f1.below h.below.size (fun k hk => m.lowF k (.inr hk))), m.keep h.sm (by decide) (by decide) (by decide) (f1.mono fun k _ hk => .inr hk)⟩
theorem drew (h : Ps W g p kb r q w) : Ps W g p kb r q w.drew := by
  obtain ⟨v, m⟩ := h.mkr
  exact ⟨⟨v, ⟨m.mb.drew, m.sb.drew, m.row.drew, m.lg, m.lp⟩⟩, h.below.drew, h.sm.drew⟩
theorem start {v : Value} (m : Mk w W.heap.size g p v 0 q) (hb : Below W.heap.size W w) (r : Sp) : Ps W g p w.heap.size r q (w.alloc (.cells #[.slice r.A r.n r.c, .string r.sin, .string r.sout, .bool r.more] 49)) :=
  ⟨⟨v, m.alloc _⟩, hb.alloc hb.size _, Blk.new _ _ _⟩
end Ps
def PlanRet (W : World) (N : Nat) (ss : List Smp) (os : List Int) (e : Ending) (w' : World) : Prop :=
  Below W.heap.size W w' ∧ ∃ A m c, e = .returned (.tuple #[.slice A m c, .int .i64 (planErr N ss os)]) ∧ RS Stp.cells 8 w' w'.heap.size A m (if planErr N ss os = 0 then planL N ss os else [])
theorem plan_bad {W w' : World} {N : Nat} {ss : List Smp} {os : List Int} {x : Int} (h : planErr N ss os = x) (hx : x ≠ 0) (hb : Below W.heap.size W w') : PlanRet W N ss os (.returned (.tuple #[.slice none 0 0, .int .i64 x])) w' := by
  subst h
  refine ⟨hb, none, 0, 0, rfl, ?_⟩
  rw [if_neg hx]
  exact ⟨Reads.none_, rfl⟩
/-- What is left when some commands are done. -/
structure Pl (W : World) (N : Nat) (ss : List Smp) (os : List Int) (g p : Nat) (k : Nat) (bf : Int) (wr : World) : Prop where
  ex : ∃ v q, Mk wr W.heap.size g p v 0 q ∧ goF N ss 0 (-1) (opened (fun _ => false) os, []) = goF N (ss.drop k) k bf q ∧ q.2.length ≤ 18 * k ∧ (k < N → Inv bf q.1)
  below : Below W.heap.size W wr
theorem plan_ok {N : Nat} {ss : List Smp} {os : List Int} (h : planErr N ss os = 0) : 1 ≤ N ∧ N ≤ 6 ∧ (∀ s ∈ ss, s.bad = false) ∧ Inv (-1) (opened (fun _ => false) os) := by
  unfold planErr at h
  split at h
  · cases h
  rename_i hn
  split at h
  · cases h
  rename_i ho
  split at h
  · cases h
  rename_i hs
  split at h
  · cases h
  rename_i hc
  refine ⟨by omega, by omega, fun s hm => ?_, opened_low (fun z hz => by simp at hz) (fun x hx => ?_), .inl rfl, by simp; omega⟩
  · rw [List.any_eq_true] at hs
    cases hb : s.bad with
    | false => rfl
    | true => exact absurd ⟨s, hm, hb⟩ hs
  · unfold badO at ho
    rw [List.any_eq_true] at ho
    by_cases hh : x < 0 ∨ 8 ≤ x
    · exact absurd ⟨x, hx, by simpa using hh⟩ ho
    · omega
set_option maxHeartbeats 2000000 in
set_option maxRecDepth 100000 in
theorem plan_any (A : Option Addr) (n c : Nat) (rs : List Sp) (A1 : Option Addr) (n1 c1 : Nat) (os : List Int) (W : World) (h : RP W W.heap.size A n rs) (ho : RI .i64 W W.heap.size A1 n1 os) (hn1 : n1 ≤ 9223372036854775807) :
    Calls Try.prog 5 #[.slice A n c, .slice A1 n1 c1] W (PlanRet W n (rs.map Sp.s) os) := by
  have HL := Lib.hid h.len
  have HBG := Lib.hid (begin_any A n c rs A1 n1 c1 os W h ho hn1)
  go_enter Try.func5, Try.ntmps5
  go_wp2_with fail
  refine HBG.out.mono ?_
  rintro e w0 ⟨hb0, ⟨hne, rfl⟩ | ⟨he, g, p, v, rfl, hM⟩⟩
  · have HE := Lib.hid hne
    have hne' : (planErr n (rs.map Sp.s) os != 0) = true := by simpa using hne
    clear hne
    generalize hx : planErr n (rs.map Sp.s) os = x at *
    have HX := Lib.hid hx
    clear hx
    go_wp2
    go_ret2
    exact plan_bad HX.out HE.out hb0
  · have HM := Lib.hid hM
    have HB := Lib.hid hb0
    have HE := Lib.hid he
    have HNN := Lib.hid (plan_ok he)
    have hn6 : n ≤ 6 := (plan_ok he).2.1
    have HI0 : Hid (Inv (-1) (opened (fun _ => false) os)) := Lib.hid ((plan_ok he).2.2.2)
    clear hM hb0 he
    have H0 : Hid (Pl W n (rs.map Sp.s) os g p 0 (-1) w0) := Lib.hid ⟨⟨v, _, HM.out, rfl, by simp, fun _ => HI0.out⟩, HB.out⟩
    clear HM HB
    go_wp2_with fail
    go_loopw [8, 24] (fun bfv i wr => ∃ (k : Nat) (bf : Int), i = .int .i64 k ∧ k ≤ n ∧ bfv = .int .i64 bf ∧ Pl W n (rs.map Sp.s) os g p k bf wr) (fun _ i _ => n - (intOf i).toNat)
    case atStart => exact ⟨0, -1, rfl, by omega, rfl, H0.out⟩
    case round =>
      obtain ⟨k, bf, rfl, hk, rfl, ⟨v1, q, m1, hgo, hl1, hin⟩, hb1⟩ := hrel
      clear H0
      have HGO := Lib.hid hgo
      have HB1 := Lib.hid hb1
      have HM1 := Lib.hid m1
      clear hgo hb1 m1
      by_cases hlt : k < n
      · have HI := Lib.hid (hin hlt)
        clear hin
        obtain ⟨b, o, rfl, hb, hf, hget, c0, c1, c2, c3⟩ := (h.below' HB1.out (Nat.le_refl _)).at_ hlt
        obtain ⟨r, hr⟩ : ∃ r, rs.getD k Sp.zero = r := ⟨_, rfl⟩
        rw [hr] at hf hget c0 c1 c2 c3
        have HF : Hid (r.Fine W W.heap.size) := Lib.hid (h.2 r (List.mem_of_getElem? hget))
        have HRN : Hid (0 < r.n) := Lib.hid (by
          have hb := (plan_ok HE.out).2.2.1 r.s (List.mem_map.2 ⟨r, List.mem_of_getElem? hget, rfl⟩)
          rcases Nat.eq_zero_or_pos r.n with h0 | h0
          · simp [Smp.bad, Sp.s, h0] at hb
          · exact h0)
        have HDR : Hid ((rs.map Sp.s).drop k = r.s :: (rs.map Sp.s).drop (k + 1)) := Lib.hid (by
          have hkl : k < (rs.map Sp.s).length := by simpa [HL.out] using hlt
          rw [List.drop_eq_getElem_cons hkl]
          have e1 := (List.getElem?_eq_some_iff.1 hget).2
          congr 1
          simp [e1])
        clear hf hget hr
        have hkn : (k : Int) < n := by omega
        have hbw : b < wr.heap.size := by have := HB1.out.size; omega
        have hbf : bf < 8 := by rcases HI.out.be with e | e <;> omega
        have HP0 := Lib.hid (Ps.start HM1.out HB1.out r)
        obtain ⟨kb, hkb⟩ : ∃ kb, wr.heap.size = kb := ⟨_, rfl⟩
        by_cases hmid : k + 1 < n
        · have hcd : decide ((k : Int) < (n : Int) - 1) = true := by simp; omega
          obtain ⟨⟨r0, r1, r2⟩, ⟨w0', w1', w2'⟩, hlowP, -, -, -, hinv⟩ := HI.out.mid
          have HINV : Hid (Inv (lst q.1) (cmdM (k + 1) r.s bf q).1) := Lib.hid (by rw [cmdM_set]; exact hinv)
          have HSTEP := Lib.hid ((HGO.out).trans (goF_mid HDR.out hmid))
          have HLEN := Lib.hid (cmdM_len (k + 1) r.s bf q)
          have h3c := HI.out.two
          have hct := cnt_take ⟨r0, r1⟩ r2
          clear hinv r2 w2'
          go_wp2_with fail
          refine (HP0.out.step (by omega)).mono ?_
          rintro e w1 ⟨rfl, h1⟩
          rw [hkb] at h1
          clear hkb c0 c1 c2 c3 HP0
          go_wp2_with fail
          refine (h1.least (by dsimp only; omega)).mono ?_
          rintro e w2 ⟨rfl, h2⟩
          clear h1
          go_wp2_with fail
          refine (h2.least (by simp only [takeF]; omega)).mono ?_
          rintro e w3 ⟨rfl, h3'⟩
          have h3 : Ps W g p kb r (pipeF q) w3 := h3'
          have hlp : (pipeF q).2.length = q.2.length + 1 := by simp [pipeF, takeF]
          have HCM : Hid (cmdM (k + 1) r.s bf q = shutF 0 (lst (up q.1 (lst q.1) true)) (shutF 0 bf ((pipeF q).1, (childF (k + 1) r.s bf (lst (up q.1 (lst q.1) true)) (lst q.1) (forkF (pipeF q))).2))) := Lib.hid rfl
          clear h2 h3'
          dsimp only [takeF]
          generalize lst (up q.1 (lst q.1) true) = ww at *
          generalize lst q.1 = rr at *
          generalize pipeF q = qp at *
          generalize cmdM (k + 1) r.s bf q = qz at *
          go_wp2_with fail
          refine (h3.step (by omega)).mono ?_
          rintro e w4 ⟨rfl, h4'⟩
          have h4 : Ps W g p kb r (forkF qp) w4 := h4'
          have hl4 : (forkF qp).2.length = q.2.length + 2 := by simp [forkF]; omega
          have hlc := childF_len (k + 1) r.s bf ww rr (forkF qp)
          clear h3 h4' hct h3c
          obtain ⟨vm, mm⟩ := h4.mkr
          have gb := mm.mb
          have g0 := gb.cell 0
          have g1 := gb.cell 1
          have g2 := gb.cell 2
          have g3 := gb.cell 3
          have g4 := gb.cell 4
          have g5 := gb.cell 5
          have g6 := gb.cell 6
          have g7 := gb.cell 7
          have g8 := gb.cell 8
          have g9 := gb.cell 9
          have gl := gb.lt
          have s0 := h4.sm.cell 0
          have s1 := h4.sm.cell 1
          have s2 := h4.sm.cell 2
          have s3 := h4.sm.cell 3
          have sl := h4.sm.lt
          dsimp [mkC] at g0 g1 g2 g3 g4 g5 g6 g7 g8 g9
          dsimp at s0 s1 s2 s3
          clear gb mm
          go_wp2_with fail
          go_region_with (go_at_call 17; refine (h4.drew.child HF.out HRN.out (by omega) hlowP hbf (by omega) (by omega)).mono ?_; rintro e w5 ⟨rfl, h5⟩)
          all_goals
            clear g0 g1 g2 g3 g4 g5 g6 g7 g8 g9 gl s0 s1 s2 s3 sl h4
            rw [show IntKind.i64.wrap ((k : Int) + 1) = (k : Int) + 1 from IntWalk.i64_in _ (by omega)] at h5
            have hlb := shutF_len 0 bf ((forkF qp).1, (childF (k + 1) r.s bf ww rr (forkF qp)).2)
            have hqb := shutF_low (me := 0) (n := bf) (q := ((forkF qp).1, (childF (k + 1) r.s bf ww rr (forkF qp)).2)) hlowP
            go_wp2_with fail
            refine (h5.shut (by first | omega | (dsimp only at hlb ⊢; omega)) hlowP hbf).mono ?_
            rintro e w6 ⟨rfl, h6⟩
            clear h5
            go_wp2_with fail
            refine (h6.shut (by first | omega | (dsimp only at hlb ⊢; omega)) hqb (by omega)).mono ?_
            rintro e w7 ⟨rfl, h7⟩
            have h8 : Ps W g p kb r qz w7 := by rw [HCM.out]; exact h7
            clear h6 h7 hlb hqb
            obtain ⟨v8, m8⟩ := h8.mkr
            have HP8 : Hid (Pl W n (rs.map Sp.s) os g p (k + 1) rr w7) := Lib.hid ⟨⟨v8, qz, m8, HSTEP.out, by have := HLEN.out; omega, fun _ => HINV.out⟩, h8.below⟩
            clear h8 m8
            go_wp2
            go_roundw
            case rel => exact ⟨k + 1, rr, by go_num, by omega, rfl, HP8.out⟩
            case measure => simp [intOf]; omega
        · have hcd : decide ((k : Int) < (n : Int) - 1) = false := by simp; omega
          have HSTEP := Lib.hid ((HGO.out).trans (goF_end HDR.out hmid))
          have HLEN := Lib.hid (cmdE_len (k + 1) r.s bf q)
          have HCM : Hid (cmdE (k + 1) r.s bf q = shutF 0 bf ((forkF q).1, (childF (k + 1) r.s bf (-1) (-1) (forkF q)).2)) := Lib.hid rfl
          have hlowP := HI.out.low
          go_wp2_with fail
          refine (HP0.out.step (by omega)).mono ?_
          rintro e w4 ⟨rfl, h4'⟩
          rw [hkb] at h4'
          have h4 : Ps W g p kb r (forkF q) w4 := h4'
          have hl4 : (forkF q).2.length = q.2.length + 1 := by simp [forkF]
          have hlc := childF_len (k + 1) r.s bf (-1) (-1) (forkF q)
          clear h4' hkb c0 c1 c2 c3 HP0
          generalize cmdE (k + 1) r.s bf q = qz at *
          obtain ⟨vm, mm⟩ := h4.mkr
          have gb := mm.mb
          have g0 := gb.cell 0
          have g1 := gb.cell 1
          have g2 := gb.cell 2
          have g3 := gb.cell 3
          have g4 := gb.cell 4
          have g5 := gb.cell 5
          have g6 := gb.cell 6
          have g7 := gb.cell 7
          have g8 := gb.cell 8
          have g9 := gb.cell 9
          have gl := gb.lt
          have s0 := h4.sm.cell 0
          have s1 := h4.sm.cell 1
          have s2 := h4.sm.cell 2
          have s3 := h4.sm.cell 3
          have sl := h4.sm.lt
          dsimp [mkC] at g0 g1 g2 g3 g4 g5 g6 g7 g8 g9
          dsimp at s0 s1 s2 s3
          clear gb mm
          go_wp2_with fail
          go_region_with (go_at_call 17; refine (h4.drew.child HF.out HRN.out (by omega) hlowP hbf (by omega) (by omega)).mono ?_; rintro e w5 ⟨rfl, h5⟩)
          all_goals
            clear g0 g1 g2 g3 g4 g5 g6 g7 g8 g9 gl s0 s1 s2 s3 sl h4
            rw [show IntKind.i64.wrap ((k : Int) + 1) = (k : Int) + 1 from IntWalk.i64_in _ (by omega)] at h5
            have hlb := shutF_len 0 bf ((forkF q).1, (childF (k + 1) r.s bf (-1) (-1) (forkF q)).2)
            have hqb := shutF_low (me := 0) (n := bf) (q := ((forkF q).1, (childF (k + 1) r.s bf (-1) (-1) (forkF q)).2)) hlowP
            go_wp2_with fail
            refine (h5.shut (by first | omega | (dsimp only at hlb ⊢; omega)) hlowP hbf).mono ?_
            rintro e w6 ⟨rfl, h6⟩
            clear h5
            go_wp2_with fail
            refine (h6.shut (by first | omega | (dsimp only at hlb ⊢; omega)) hqb (by omega)).mono ?_
            rintro e w7 ⟨rfl, h7⟩
            rw [shut_neg] at h7
            have h8 : Ps W g p kb r qz w7 := by rw [HCM.out]; exact h7
            clear h6 h7 hlb hqb
            obtain ⟨v8, m8⟩ := h8.mkr
            have HP8 : Hid (Pl W n (rs.map Sp.s) os g p (k + 1) (-1) w7) := Lib.hid ⟨⟨v8, qz, m8, HSTEP.out, by have := HLEN.out; omega, fun hh => absurd hh hmid⟩, h8.below⟩
            clear h8 m8
            go_wp2
            go_roundw
            case rel => exact ⟨k + 1, -1, by go_num, by omega, rfl, HP8.out⟩
            case measure => simp [intOf]; omega
      · obtain rfl : k = n := by omega
        have hdn : (rs.map Sp.s).drop k = [] := by rw [List.drop_eq_nil_iff]; simp [HL.out]
        rw [hdn] at HGO
        have HF : Hid (goF k (rs.map Sp.s) 0 (-1) (opened (fun _ => false) os, []) = q) := HGO
        clear hdn HGO hin
        have H2 : Hid (∃ v2, Mk wr W.heap.size g p v2 0 (q.1, q.2 ++ List.replicate 0 (stp 0 4 0 0))) := Lib.hid ⟨v1, by have := HM1.out; simpa using this⟩
        clear HM1
        go_wp2_with fail
        go_loopw [64] (fun i w2 => ∃ j : Nat, i = .int .i64 j ∧ j ≤ k ∧ (∃ v2, Mk w2 W.heap.size g p v2 0 (q.1, q.2 ++ List.replicate j (stp 0 4 0 0))) ∧ Below W.heap.size W w2) (fun i _ => k - (intOf i).toNat)
        case atStart => exact ⟨0, rfl, by omega, H2.out, HB1.out⟩
        case round =>
          obtain ⟨j, rfl, hj, ⟨v2, m2⟩, hb2⟩ := hrel
          clear H2 HB1
          have HM := Lib.hid m2
          have HB := Lib.hid hb2
          clear m2 hb2
          by_cases hjk : j < k
          · have hjk' : (j : Int) < k := by omega
            go_wp2_with fail
            refine (step_any _ _ g p v2 0 _ 4 0 0 0 ByteArray.empty HM.out (by simp; omega)).mono ?_
            rintro e w3 ⟨rfl, v3, m3, f3, o3⟩
            have HM3 : Hid (∃ v4, Mk w3 W.heap.size g p v4 0 (q.1, q.2 ++ List.replicate (j + 1) (stp 0 4 0 0))) := Lib.hid ⟨v3, by
              have e : q.2 ++ List.replicate (j + 1) (stp 0 4 0 0) = q.2 ++ List.replicate j (stp 0 4 0 0) ++ [stp 0 4 0 0] := by rw [List.replicate_succ', List.append_assoc]
              rw [e]; exact m3⟩
            have HB3 : Hid (Below W.heap.size W w3) := Lib.hid (HB.out.trans (f3.below HB.out.size HM.out.lowF))
            clear m3 f3 o3
            go_wp2
            go_roundw
            case rel => exact ⟨j + 1, by go_num, by omega, HM3.out, HB3.out⟩
            case measure => simp [intOf]; omega
          · obtain rfl : j = k := by omega
            obtain ⟨m9, hm9⟩ : ∃ m, (q.2 ++ List.replicate j (stp 0 4 0 0)).length = m := ⟨_, rfl⟩
            have hrow := HM.out.row
            dsimp only at hrow
            rw [hm9] at hrow
            obtain ⟨A9, c9, hv9, -, -⟩ := hrow.shape
            rw [hv9] at hrow
            have HR9 := Lib.hid hrow
            have HM9 := Lib.hid hm9
            clear hrow hm9
            have h0 := HM.out.mb.cell 0
            have hlg := HM.out.mb.lt
            have p0 := HM.out.sb.cell 0
            have hlp := HM.out.sb.lt
            rw [hv9] at p0
            dsimp [mkC] at h0 p0
            clear hv9
            go_wp2
            go_ret2
            refine ⟨HB.out, A9, m9, c9, by rw [HE.out]; rfl, ?_⟩
            rw [if_pos HE.out]
            have e : planL j (rs.map Sp.s) os = q.2 ++ List.replicate j (stp 0 4 0 0) := by unfold planL; rw [HF.out]
            rw [e]
            exact ⟨HR9.out.reads, HM9.out⟩
end Go.Proofs.Ytjeclmkdojnflaa
