/- Contract of the reference's Given. -/
import Derived.Test.YthlhjaacjhlkhaaPpJ
namespace Go.Proofs.Ythlhjaacjhlkhaa
open Go.RowKit
set_option maxHeartbeats 400000
set_option linter.unusedVariables false
set_option linter.unusedSimpArgs false
def RetN (W : World) (B q0 : Nat) (vL : Value) (F : Fs) (id : Int) (xs : List Int) (e : Ending) (w' : World) : Prop :=
  e = .returned (.tuple #[.int .i64 (writeN F id xs), .int .i64 (writeE F id xs)]) ∧ QGo W B q0 vL (writeF F id xs) w'
theorem n_bad {W w' : World} {B q0 : Nat} {vL : Value} {F : Fs} {id x : Int} {xs : List Int} (hx : writeE F id xs = x) (h0 : x ≠ 0) (hG : QGo W B q0 vL F w') : RetN W B q0 vL F id xs (.returned (.tuple #[.int .i64 0, .int .i64 x])) w' := by
  obtain ⟨h1, h2⟩ := write_fail (F := F) (id := id) (xs := xs) (by rw [hx]; exact h0)
  exact ⟨by rw [h1, hx], by rw [h2]; exact hG⟩
/-- Behind j bytes. -/
def Fj (F : Fs) (i : Nat) (p : Pp) (xs : List Int) (j : Nat) : Fs := put F i (some { p with bs := p.bs ++ xs.take j })
theorem Fj_zero {F : Fs} {i : Nat} {p : Pp} (xs : List Int) (hp : F i = some p) : Fj F i p xs 0 = F := by
  funext a
  unfold Fj put
  split
  · rename_i e; subst e; rw [hp]; simp
  · rfl
theorem Fj_put (F : Fs) (i : Nat) (p : Pp) (xs : List Int) (j : Nat) (y : Option Pp) : put (Fj F i p xs j) i y = put F i y := by
  funext a
  unfold Fj put
  split <;> rfl
theorem rb_one {w : World} {B n : Nat} {b o : Nat} {xs : List Int} (h : RB w B (some ⟨b, o, none⟩) n xs) {j : Nat} (hj : j < n) : RB w B (some ⟨b, o + j, none⟩) 1 [xs.getD j 0] := by
  obtain ⟨b', o', e, hb, hc, hr⟩ := h.at_ hj
  injection e with e
  injection e with e1 e2
  subst e1; subst e2
  refine ⟨⟨rfl, fun _ => ⟨b, o + j, rfl, hb, fun k u hu => ?_⟩⟩, fun x hx => by simp at hx; subst hx; exact hr⟩
  have hk : k = 0 := by
    rcases Nat.eq_zero_or_pos k with h0 | h0
    · exact h0
    · rw [List.getElem?_eq_none (by simp; omega)] at hu; cases hu
  subst hk
  simp at hu
  subst hu
  exact hc
section
variable {w : World} {B q0 : Nat} {vL : Value} {F : Fs}
set_option maxHeartbeats 2000000 in
set_option maxRecDepth 100000 in
theorem given_any (h : Qe w B q0 vL F) (hB : B ≤ w.heap.size) (id : Int) (A2 : Option Addr) (n2 cc : Nat) (xs : List Int) (hx : RB w B A2 n2 xs) (hncc : n2 ≤ cc) (hcc : cc ≤ 9223372036854775807) : Calls Try.prog 33 #[.pointer (some ⟨q0, 0, none⟩), .int .i64 id, .slice A2 n2 cc] w (RetN w B q0 vL F id xs) := by
  obtain ⟨A, c, rfl, hnc, hcm⟩ := h.row.shape
  obtain ⟨hn, hrq⟩ := h.rq
  have H := Lib.hid h
  have HP := Lib.hid h.refl
  have HW := Lib.hid (who_any w w.heap.size A (allR F).length c F id 1 hrq (Nat.le_refl _))
  have hc0 := h.ob.cell 0
  have hlq := h.ob.lt
  have hlx := hx.len
  dsimp at hc0
  by_cases hnn : 256 < xs.length
  · have HE := Lib.hid (write_arg (F := F) (id := id) hnn)
    have hd : decide ((256 : Int) < n2) = true := by simp; omega
    clear h hn hrq
    go_enter Try.func33, Try.ntmps33
    go_wp2
    go_ret2
    exact n_bad HE.out (by decide) HP.out
  · have hd : decide ((256 : Int) < n2) = false := by simp; omega
    by_cases h0 : errE F id 1 = 0
    · obtain ⟨i, p, hi, rfl, hp, he, hz, ha⟩ := errE_zero h0
      have HV : Hid (whoV F ((i : Int) + 1) 1 = .tuple #[.int .i64 ((lo F i).length : Nat), .int .i64 (p.at_ 1), .int .i64 0]) := Lib.hid (by unfold whoV; rw [if_neg (by rw [h0]; simp), ha, show ((i : Int) + 1 - 1).toNat = i by omega])
      rw [HV.out] at HW
      have HF := Lib.hid hp
      obtain ⟨q1, q2, q3⟩ := place_some hi hp
      have HRQ := Lib.hid hrq
      obtain ⟨N, hN⟩ : ∃ N, (allR F).length = N := ⟨_, rfl⟩
      rw [hN] at HW hc0 HRQ q2
      obtain ⟨z, hzz⟩ : ∃ z, (lo F i).length = z := ⟨_, rfl⟩
      rw [hzz] at HW q2 q3
      have hzn : (z : Int) < N := by omega
      obtain ⟨k1, k2, k3, k4, k5, k6⟩ := h.ok i p hi hp
      have hro := write_ok hnn hi hp h0
      have HX := Lib.hid hx
      have HST : Hid (∀ w1, Below w.heap.size w w1 → ∃ g o, A = some ⟨g, o, none⟩ ∧ g < w1.heap.size ∧ w1.cell? ⟨g, o + z * 4 + 1, none⟩ = some (.int .i64 p.r) ∧ w1.cell? ⟨g, o + z * 4 + 3, none⟩ = some (.string (strOfNums p.bs)) ∧ w1.cell? ⟨q0, 0, none⟩ = some (.slice A N c) ∧ q0 < w1.heap.size) := Lib.hid (fun w1 hb1 => by
        have H1 := H.out.grow hb1
        obtain ⟨b2, o2, e2, hb2, -, d1, d2, d3⟩ := (HRQ.out.below' hb1 (Nat.le_refl _)).at_ q2
        rw [q3] at d1 d3
        refine ⟨b2, o2, e2, Nat.lt_of_lt_of_le hb2 hb1.size, d1, d3, ?_, H1.ob.lt⟩
        have := H1.ob.cell 0
        rw [hN] at this
        exact this)
      have HN := Lib.hid hN
      have HZZ := Lib.hid hzz
      clear h hn hrq hp ha hz q1 q2 q3 h0 HRQ hN hzz hx
      rcases hro with ⟨hr0, hr⟩ | ⟨hr0, ⟨hh1, hh2⟩, hr⟩ | ⟨hr0, hh, hr, hr2, hr3⟩
      · have HR := Lib.hid hr
        clear hr
        go_enter Try.func33, Try.ntmps33
        go_wp2_with fail
        refine HW.out.mono ?_
        rintro y w1 ⟨rfl, hb1⟩
        obtain ⟨g, o, rfl, hgl, d1, d3, hc1, hl1⟩ := HST.out w1 hb1
        rw [hr0] at d1
        have HB1 := Lib.hid hb1
        clear hb1 hc0 hlq hr0
        go_wp2
        go_ret2
        exact n_bad HR.out (by decide) (H.out.grown HB1.out)
      · have HR := Lib.hid hr
        have hd2 : (p.r == 0) = false := by simpa using hr0
        have hn2p : 0 < n2 := by omega
        have hsz : (strOfNums p.bs).size = 64 := by rw [strOfNums_size]; exact hh2
        clear hr hr0 hh1 hh2
        go_enter Try.func33, Try.ntmps33
        go_wp2_with fail
        refine HW.out.mono ?_
        rintro y w1 ⟨rfl, hb1⟩
        obtain ⟨g, o, rfl, hgl, d1, d3, hc1, hl1⟩ := HST.out w1 hb1
        have HB1 := Lib.hid hb1
        clear hb1 hc0 hlq
        go_wp2
        go_ret2
        exact n_bad HR.out (by decide) (H.out.grown HB1.out)
      · obtain ⟨nn, hnn2⟩ : ∃ nn, min xs.length (64 - p.bs.length) = nn := ⟨_, rfl⟩
        rw [hnn2] at hr2
        rw [take_min, Nat.min_comm, hnn2] at hr3
        have hr3' : writeF F ((i : Int) + 1) xs = Fj F i p xs nn := hr3
        rw [hlx] at hh hnn2
        obtain ⟨l, hl⟩ : ∃ l, p.bs.length = l := ⟨_, rfl⟩
        rw [hl] at hh hnn2 k5
        have HRN := Lib.hid hr2
        have HRF := Lib.hid hr3'
        have HR := Lib.hid hr
        have HL := Lib.hid hl
        have hn256 : n2 ≤ 256 := by omega
        have hd2 : (p.r == 0) = false := by simpa using hr0
        have hsz : (strOfNums p.bs).size = l := by rw [strOfNums_size]; exact hl
        clear hr hr0 hr2 hr3 hr3' hl hnn
        have hcase : n2 = 0 ∨ (0 < n2 ∧ l ≠ 64) := by omega
        clear hh
        rcases hcase with hk0 | ⟨hk0, hk1⟩
        case' inl => have hkk : ¬ 0 < n2 := by omega
        case' inr => have hkk : ((l : Int) == 64) = false := by rw [beq_eq_false_iff_ne]; omega
        case' inl => clear hk0
        case' inr => clear hk1
        all_goals
          go_enter Try.func33, Try.ntmps33
          go_wp2_with fail
          refine HW.out.mono ?_
          rintro y w1 ⟨rfl, hb1⟩
          obtain ⟨g, o, rfl, hgl, d1, d3, hc1, hl1⟩ := HST.out w1 hb1
          have HB1 := Lib.hid hb1
          have H1 : Hid (Qe w1 B q0 (.slice (some ⟨g, o, none⟩) (allR F).length c) (Fj F i p xs 0)) := Lib.hid (by rw [Fj_zero xs HF.out]; exact H.out.grow hb1)
          clear hb1 hc0 hlq
          go_wp2_with fail
          clear d1 d3 hc1 hl1 hgl hsz hkk
          go_loopw [12] (fun x wr => ∃ j : Nat, x = .int .i64 j ∧ j ≤ nn ∧ Qe wr B q0 (.slice (some ⟨g, o, none⟩) (allR F).length c) (Fj F i p xs j) ∧ Fr (QFt q0 (.slice (some ⟨g, o, none⟩) (allR F).length c)) w1 wr) (fun x _ => nn - (intOf x).toNat)
          case atStart => exact ⟨0, rfl, by omega, H1.out, Fr.refl _ _⟩
          case round =>
            obtain ⟨j, rfl, hj, hQ, hfr⟩ := hrel
            have HFR := Lib.hid hfr
            have HQ := Lib.hid hQ
            obtain ⟨-, q2, q3⟩ := place_some hi (put_same F i (some { p with bs := p.bs ++ xs.take j }))
            rw [lo_put, HZZ.out] at q2 q3
            obtain ⟨hn', hrq'⟩ := hQ.rq
            obtain ⟨b3, o3, e3, hb3, -, -, -, d3⟩ := hrq'.at_ (k := z) (by rw [hn']; exact q2)
            injection e3 with e3
            injection e3 with e4 e5
            subst e4; subst e5
            have d3' : wr.cell? ⟨g, o + z * 4 + 3, none⟩ = some (.string (strOfNums (p.bs ++ xs.take j))) := by
              have := d3
              unfold Fj at this
              rw [q3] at this
              exact this
            obtain ⟨g2, o2, c2, hv2, -, -, hfz, hput⟩ := hQ.set (p' := { p with bs := p.bs ++ xs.take (j + 1) }) hi (put_same F i (some { p with bs := p.bs ++ xs.take j }))
            injection hv2 with a1 a2 a3
            injection a1 with a1
            injection a1 with a4 a5
            subst a4; subst a5; subst a3
            clear a2
            have hf3 := hfz (o + z * 4 + 3)
            have hlz : (lo (Fj F i p xs j) i).length = z := by unfold Fj; rw [lo_put]; exact HZZ.out
            rw [hlz] at hput
            have hxr : RB wr B A2 n2 xs := HX.out.below' (HB1.out.mono hB |>.trans (hfr.below (Nat.le_trans hB HB1.out.size) (fun k hk => ((H.out.grow HB1.out).lowF k hk)))) (Nat.le_refl _)
            have hssz : (strOfNums (p.bs ++ xs.take j)).size = l + j := by rw [strOfNums_size, List.length_append, HL.out, List.length_take]; omega
            clear hfr hQ q2 q3 hn' hrq' d3 hfz hlz H1
            have hql := HQ.out.ob.lt
            by_cases hjn : j < nn
            · have hj2 : j < n2 := by omega
              have hji : (j : Int) < n2 := by omega
              have hs64 : decide (((l + j : Nat) : Int) < 64) = true := by simp; omega
              have hlj : l + j < 64 := by omega
              obtain ⟨b2, o2, rfl, hb2, hcx, -⟩ := hxr.at_ hj2
              have hone := rb_one hxr hj2
              have hconv := hone.drew.conv (P := Try.prog) (cc - j) 23 9 5 Try.underlying23 Try.underlying5 Try.underlying9
              have hjc : (j : Int) + 1 ≤ cc := by omega
              have hjc2 : ¬ cc = j := by omega
              have hj1 : (j : Int) ≤ (j : Int) + 1 := by omega
              have hw1 : IntKind.i64.wrap ((j : Int) + 1) = (j : Int) + 1 := IntWalk.i64_in _ (by omega)
              have ht1 : ((j : Int) + 1).toNat = j + 1 := by omega
              have hsub : j + 1 - j = 1 := by omega
              have hcat : strOfNums (p.bs ++ xs.take j) ++ strOfNums [xs.getD j 0] = strOfNums (p.bs ++ xs.take (j + 1)) := by
                have hjx : j < xs.length := by omega
                rw [strOfNums_append, List.append_assoc, List.take_succ_eq_append_getElem hjx]
                simp [List.getD, List.getElem?_eq_getElem hjx]
              have hok : Pp.ok { p with bs := p.bs ++ xs.take (j + 1) } := ⟨k1, k2, k3, k4, by dsimp only; rw [List.length_append, HL.out, List.length_take]; omega, fun y hy => by
                rcases List.mem_append.1 hy with e | e
                · exact k6 y e
                · exact hxr.2 y (List.mem_of_mem_take e)⟩
              have HU := Lib.hid (hput 3 (.string (strOfNums (p.bs ++ xs.take (j + 1)))) (by decide) rfl hok)
              rw [Fj_put] at HU
              clear hput hok hxr hone hb2 hcx
              have hs0 : (strOfNums [xs.getD j 0]).size = 1 := by rw [strOfNums_size]; rfl
              have hbig : ¬ 9223372036854775807 < l + j + 1 := by omega
              generalize strOfNums (p.bs ++ xs.take (j + 1)) = s2 at *
              generalize strOfNums (p.bs ++ xs.take j) = s1 at *
              generalize strOfNums [xs.getD j 0] = s0 at *
              have HU2 : Hid (Qe ((wr.setCell ⟨g, o + z * 4 + 3, none⟩ (.string s2)).drew) B q0 (.slice (some ⟨g, o, none⟩) (allR F).length c) (Fj F i p xs (j + 1)) ∧ Fr (QFt q0 (.slice (some ⟨g, o, none⟩) (allR F).length c)) w1 (wr.setCell ⟨g, o + z * 4 + 3, none⟩ (.string s2)).drew) := Lib.hid ⟨HU.out.1.grow (Below.refl _ _).drew, (HFR.out.trans HU.out.2 (fun k _ e => e)).drew⟩
              go_wp2_with fail
              go_region
              all_goals
                go_wp2
                clear hconv hw1 ht1 hsub hcat hs0 hbig hssz
                go_roundw
                case rel => exact ⟨j + 1, by go_num, by omega, HU2.out⟩
                case measure => simp [intOf]; omega
            · obtain rfl : j = nn := by omega
              have HFIN : Hid (QGo w B q0 (.slice (some ⟨g, o, none⟩) (allR F).length c) (Fj F i p xs j) wr) := Lib.hid (QGo.comp ((Fr.of_grow HB1.out).mono fun _ _ e => e.elim) (fun k hk => .inl hk) (Qe.go ⟨HQ.out, HFR.out⟩))
              clear hput hxr
              by_cases hjn2 : j < n2
              · have hs64 : ¬ l + j < 64 := by omega
                clear hjn
                go_wp2
                go_ret2
                exact ⟨by rw [HR.out, HRN.out]; rfl, by rw [HRF.out]; exact HFIN.out⟩
              · clear hjn
                go_wp2
                go_ret2
                exact ⟨by rw [HR.out, HRN.out]; rfl, by rw [HRF.out]; exact HFIN.out⟩
    · obtain ⟨x, hx0⟩ : ∃ x, errE F id 1 = x := ⟨_, rfl⟩
      have h00 := h0
      rw [hx0] at h0
      have HR := Lib.hid (write_err hnn hx0 h0)
      have HXX := Lib.hid h0
      have HV : Hid (whoV F id 1 = .tuple #[.int .i64 0, .int .i64 0, .int .i64 x]) := Lib.hid (by unfold whoV; rw [if_pos h00, hx0])
      rw [HV.out] at HW
      have hd3 : (x != 0) = true := by simpa using h0
      clear h hx0 h0 hn hrq h00 hnn
      go_enter Try.func33, Try.ntmps33
      go_wp2_with fail
      refine HW.out.mono ?_
      rintro y w1 ⟨rfl, hb1⟩
      go_wp2
      go_ret2
      exact n_bad HR.out HXX.out (H.out.grown hb1)
end
end Go.Proofs.Ythlhjaacjhlkhaa
