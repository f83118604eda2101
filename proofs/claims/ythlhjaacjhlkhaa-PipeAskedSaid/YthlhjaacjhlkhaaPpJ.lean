/- Contract of the reference's Got. -/
import Derived.Test.YthlhjaacjhlkhaaPpI
namespace Go.Proofs.Ythlhjaacjhlkhaa
open Go.RowKit
set_option maxHeartbeats 400000
set_option linter.unusedVariables false
set_option linter.unusedSimpArgs false
def RetG (W : World) (B q0 : Nat) (vL : Value) (F : Fs) (id n : Int) (e : Ending) (w' : World) : Prop :=
  ∃ A m c, e = .returned (.tuple #[.slice A m c, .int .i64 (readE F id n)]) ∧ RB w' w'.heap.size A m (readO F id n) ∧ QGo W B q0 vL (readF F id n) w'
theorem g_bad {W w' : World} {B q0 : Nat} {vL : Value} {F : Fs} {id n x : Int} (hx : readE F id n = x) (h0 : x ≠ 0) (hG : QGo W B q0 vL F w') : RetG W B q0 vL F id n (.returned (.tuple #[.slice none 0 0, .int .i64 x])) w' := by
  obtain ⟨h1, h2⟩ := read_fail (F := F) (id := id) (n := n) (by rw [hx]; exact h0)
  exact ⟨none, 0, 0, by rw [hx], by rw [h1]; exact ⟨Reads.none_, fun y hy => by simp at hy⟩, by rw [h2]; exact hG⟩
theorem str_take (bs : List Int) (m : Nat) : (strOfNums bs).extract 0 m = strOfNums (bs.take m) := by
  apply ByteArray.ext
  simp [strOfNums, ByteArray.data_extract]
theorem str_drop (bs : List Int) (m : Nat) : (strOfNums bs).extract m bs.length = strOfNums (bs.drop m) := by
  apply ByteArray.ext
  simp [strOfNums, ByteArray.data_extract]
  rw [List.take_of_length_le (by simp)]
theorem text_empty (xs : List Int) : (strOfNums xs).toList.isEmpty = decide (xs.length = 0) := by
  rw [strOfNums_toList]
  cases xs <;> simp
section
variable {w : World} {B q0 : Nat} {vL : Value} {F : Fs}
set_option maxHeartbeats 2000000 in
set_option maxRecDepth 100000 in
theorem got_any (h : Qe w B q0 vL F) (hB : B ≤ w.heap.size) (id n : Int) : Calls Try.prog 31 #[.pointer (some ⟨q0, 0, none⟩), .int .i64 id, .int .i64 n] w (RetG w B q0 vL F id n) := by
  obtain ⟨A, c, rfl, hnc, hcm⟩ := h.row.shape
  obtain ⟨hn, hrq⟩ := h.rq
  have H := Lib.hid h
  have HP := Lib.hid h.refl
  have HW := Lib.hid (who_any w w.heap.size A (allR F).length c F id 0 hrq (Nat.le_refl _))
  have hc0 := h.ob.cell 0
  have hlq := h.ob.lt
  dsimp at hc0
  by_cases hnn : n < 0 ∨ 256 < n
  · have HE := Lib.hid (read_arg (F := F) (id := id) hnn)
    clear h hn hrq
    go_enter Try.func31, Try.ntmps31
    rcases hnn with hnn | hnn
    · have hd : decide (n < 0) = true := by simpa using hnn
      go_wp2
      go_ret2
      exact g_bad HE.out (by decide) HP.out
    · have hd : decide (n < 0) = false := by simp; omega
      have hd2 : decide (256 < n) = true := by simpa using hnn
      go_wp2
      go_ret2
      exact g_bad HE.out (by decide) HP.out
  · have hd : decide (n < 0) = false := by simp; omega
    have hd2 : decide (256 < n) = false := by simp; omega
    by_cases h0 : errE F id 0 = 0
    · obtain ⟨i, p, hi, rfl, hp, he, hz, ha⟩ := errE_zero h0
      have HV : Hid (whoV F ((i : Int) + 1) 0 = .tuple #[.int .i64 ((lo F i).length : Nat), .int .i64 (p.at_ 0), .int .i64 0]) := Lib.hid (by unfold whoV; rw [if_neg (by rw [h0]; simp), ha, show ((i : Int) + 1 - 1).toNat = i by omega])
      rw [HV.out] at HW
      have HF := Lib.hid hp
      obtain ⟨q1, q2, q3⟩ := place_some hi hp
      have HRQ := Lib.hid hrq
      obtain ⟨N, hN⟩ : ∃ N, (allR F).length = N := ⟨_, rfl⟩
      rw [hN] at HW hc0 HRQ q2
      obtain ⟨z, hzz⟩ : ∃ z, (lo F i).length = z := ⟨_, rfl⟩
      rw [hzz] at HW q2 q3
      have hzn : (z : Int) < N := by omega
      obtain ⟨k1, k2, k3, k4, k5, k6⟩ := h.ok i p hi hp
      have hro := read_ok hnn hi hp h0
      have hte := text_empty p.bs
      have hts := strOfNums_size p.bs
      have HSTART : Hid (∀ w1, Below w.heap.size w w1 → ∃ g o, A = some ⟨g, o, none⟩ ∧ g < w1.heap.size ∧ g ≠ q0 ∧ (∀ j, w1.frozen? ⟨g, j, none⟩ = false) ∧ w1.cell? ⟨g, o + z * 4 + 2, none⟩ = some (.int .i64 p.w) ∧ w1.cell? ⟨g, o + z * 4 + 3, none⟩ = some (.string (strOfNums p.bs)) ∧ w1.cell? ⟨q0, 0, none⟩ = some (.slice A N c) ∧ q0 < w1.heap.size ∧ ∀ p' : Pp, (prOf i p).cells.set 3 (.string (strOfNums p'.bs)) = (prOf i p').cells → p'.ok → QGo w B q0 (.slice A (allR F).length c) (put F i (some p')) (w1.setCell ⟨g, o + z * 4 + 3, none⟩ (.string (strOfNums p'.bs)))) := Lib.hid (fun w1 hb1 => by
        have H1 := H.out.grow hb1
        obtain ⟨g, o, c', hv, hgl, hgq, hfz, hput⟩ := H1.set (p' := p) hi HF.out
        injection hv with hv1 hv2 hv3
        subst hv1; subst hv3
        obtain ⟨b2, o2, e2, hb2, -, d1, d2, d3⟩ := (HRQ.out.below' hb1 (Nat.le_refl _)).at_ q2
        injection e2 with e2
        injection e2 with e3 e4
        subst e3; subst e4
        rw [q3] at d2 d3
        refine ⟨g, o, rfl, hgl, hgq, hfz, d2, d3, ?_, H1.ob.lt, fun p' hs hok => ?_⟩
        · have := H1.ob.cell 0
          rw [hN] at this
          exact this
        · obtain ⟨g2, o2, c2, hv2, -, -, -, hput2⟩ := H1.set (p' := p') hi HF.out
          injection hv2 with a1 a2 a3
          injection a1 with a1
          injection a1 with a4 a5
          subst a4; subst a5
          rw [hzz] at hput2
          exact QGo.comp ((Fr.of_grow hb1).mono fun _ _ e => e.elim) (fun k hk => .inl hk) (Qe.go (hput2 3 _ (by decide) hs hok)))
      have HN := Lib.hid hN
      clear h hn hrq hp ha hz q1 q2 q3 h0 HRQ hN
      rcases hro with ⟨⟨hh1, hh2, hh3⟩, hr⟩ | ⟨hh, hr, hr2, hr3⟩
      · have HR := Lib.hid hr
        have hd3 : decide (0 < n) = true := by simpa using hh1
        have hd4 : decide (0 < p.w) = true := by simpa using hh3
        have hem : strOfNums p.bs = ByteArray.empty := by rw [hh2]; rfl
        have HEM := Lib.hid hem
        clear hr hh1 hh2 hh3 hnn hem hte hts
        go_enter Try.func31, Try.ntmps31
        go_wp2_with fail
        refine HW.out.mono ?_
        rintro y w1 ⟨rfl, hb1⟩
        obtain ⟨g, o, rfl, hgl, hgq, hfz, d2, d3, hc1, hl1, hput⟩ := HSTART.out w1 hb1
        have HPUT := Lib.hid hput
        have HB1 := Lib.hid hb1
        have hf3 := hfz (o + z * 4 + 3)
        clear hfz hput hb1 hc0 hlq
        rw [HEM.out] at d3
        have HBF : Hid (Below w.heap.size w w1) := HB1
        go_wp2
        go_ret2
        exact g_bad HR.out (by decide) (H.out.grown HBF.out)
      · obtain ⟨k, rfl⟩ : ∃ k : Nat, n = k := ⟨n.toNat, by omega⟩
        rw [Int.toNat_natCast] at hr2 hr3
        obtain ⟨bs, hbs⟩ : ∃ bs, p.bs = bs := ⟨_, rfl⟩
        rw [hbs] at hh hr2 hr3 k5 k6 HSTART hte hts
        obtain ⟨m, hm⟩ : ∃ m, min k bs.length = m := ⟨_, rfl⟩
        rw [take_min, hm] at hr2
        rw [drop_min, hm] at hr3
        have hml : m ≤ bs.length := by omega
        have hmk : m ≤ k := by omega
        have HRO := Lib.hid hr2
        have HRF := Lib.hid hr3
        have HR := Lib.hid hr
        have hk256 : k ≤ 256 := by omega
        clear hr hr2 hr3 hnn
        rcases (by omega : k = 0 ∨ 0 < k) with hk0 | hk0
        · obtain rfl : m = k := by omega
          have hk0' : ¬ 0 < m := by omega
          have hkl : decide ((bs.length : Int) < m) = false := by simp; omega
          clear hk0 hh hte hm
          go_enter Try.func31, Try.ntmps31
          go_wp2_with fail
          refine HW.out.mono ?_
          rintro y w1 ⟨rfl, hb1⟩
          obtain ⟨g, o, rfl, hgl, hgq, hfz, d2, d3, hc1, hl1, hput⟩ := HSTART.out w1 hb1
          have hf3 := hfz (o + z * 4 + 3)
          have HG := Lib.hid (hput { p with bs := bs.drop m } rfl ⟨k1, k2, k3, k4, by dsimp only; rw [List.length_drop]; omega, byt_drop k6 m⟩)
          clear hfz hput hb1 hc0 hlq
          have hxt := str_take bs m
          have hxd := str_drop bs m
          have hsb := fun W s => Lib.run_convert_string_bytes (P := Try.prog) W 9 23 5 s Try.underlying9 Try.underlying23 Try.underlying5
          have HRB := Lib.hid ((RB.bytes (w1.setCell ⟨g, o + z * 4 + 3, none⟩ (.string (strOfNums (bs.drop m)))) 5 (bs.take m) (byt_take k6 m)).more (B' := (Lib.bytesWorld (w1.setCell ⟨g, o + z * 4 + 3, none⟩ (.string (strOfNums (bs.drop m)))) 5 (strOfNums (bs.take m))).heap.size) (by rw [Lib.bytesWorld_size]; exact Nat.le_refl _))
          have HBW := Lib.hid (below_bytes (w1.setCell ⟨g, o + z * 4 + 3, none⟩ (.string (strOfNums (bs.drop m)))) 5 (strOfNums (bs.take m)))
          have hsz := strOfNums_size (bs.take m)
          have hlt : (bs.take m).length = m := by rw [List.length_take]; omega
          have HLT := Lib.hid hlt
          rw [hlt] at hsz
          clear hlt
          go_wp2
          go_ret2
          refine ⟨_, m, _, by rw [HR.out]; rfl, ?_, by rw [HRF.out]; exact HG.out.grow HBW.out⟩
          rw [HRO.out]
          have hq := HRB.out
          rw [HLT.out] at hq
          rw [World.size_setCell] at hq
          exact hq
        · by_cases hb0 : bs.length = 0
          · have hw0 : p.w = 0 := by
              rcases (by omega : p.w = 0 ∨ 0 < p.w) with e | e
              · exact e
              · exact absurd ⟨by omega, List.eq_nil_of_length_eq_zero hb0, e⟩ hh
            obtain rfl : bs = [] := List.eq_nil_of_length_eq_zero hb0
            obtain rfl : m = 0 := by simpa using hm.symm
            clear hh hte hm hb0
            go_enter Try.func31, Try.ntmps31
            go_wp2_with fail
            refine HW.out.mono ?_
            rintro y w1 ⟨rfl, hb1⟩
            obtain ⟨g, o, rfl, hgl, hgq, hfz, d2, d3, hc1, hl1, hput⟩ := HSTART.out w1 hb1
            rw [show strOfNums ([] : List Int) = ByteArray.empty from rfl] at d3
            have hf3 := hfz (o + z * 4 + 3)
            have HG := Lib.hid (hput { p with bs := ([] : List Int).drop 0 } rfl ⟨k1, k2, k3, k4, by dsimp only; rw [List.length_drop]; omega, byt_drop k6 0⟩)
            clear hfz hput hb1 hc0 hlq
            have hxt := str_take [] 0
            have hxd := str_drop [] 0
            have hsb := fun W s => Lib.run_convert_string_bytes (P := Try.prog) W 9 23 5 s Try.underlying9 Try.underlying23 Try.underlying5
            have HRB := Lib.hid ((RB.bytes (w1.setCell ⟨g, o + z * 4 + 3, none⟩ (.string (strOfNums (([] : List Int).drop 0)))) 5 (([] : List Int).take 0) (byt_take k6 0)).more (B' := (Lib.bytesWorld (w1.setCell ⟨g, o + z * 4 + 3, none⟩ (.string (strOfNums (([] : List Int).drop 0)))) 5 (strOfNums (([] : List Int).take 0))).heap.size) (by rw [Lib.bytesWorld_size]; exact Nat.le_refl _))
            have HBW := Lib.hid (below_bytes (w1.setCell ⟨g, o + z * 4 + 3, none⟩ (.string (strOfNums (([] : List Int).drop 0)))) 5 (strOfNums (([] : List Int).take 0)))
            have hsz := strOfNums_size (([] : List Int).take 0)
            have hlt : (([] : List Int).take 0).length = 0 := by rw [List.length_take]; omega
            have HLT := Lib.hid hlt
            rw [hlt] at hsz
            clear hlt
            go_wp2
            go_ret2
            refine ⟨_, 0, _, by rw [HR.out]; rfl, ?_, by rw [HRF.out]; exact HG.out.grow HBW.out⟩
            rw [HRO.out]
            have hq := HRB.out
            rw [HLT.out] at hq
            rw [World.size_setCell] at hq
            exact hq
          · have hte2 : (strOfNums bs).toList.isEmpty = false := by rw [hte]; simpa using hb0
            by_cases hkl : bs.length < k
            · have hm4 : m = bs.length := by omega
              have HM4 := Lib.hid hm4
              clear hh hte hm hb0 hm4
              go_enter Try.func31, Try.ntmps31
              go_wp2_with fail
              refine HW.out.mono ?_
              rintro y w1 ⟨rfl, hb1⟩
              obtain ⟨g, o, rfl, hgl, hgq, hfz, d2, d3, hc1, hl1, hput⟩ := HSTART.out w1 hb1
              have hf3 := hfz (o + z * 4 + 3)
              have HG := Lib.hid (hput { p with bs := bs.drop m } rfl ⟨k1, k2, k3, k4, by dsimp only; rw [List.length_drop]; omega, byt_drop k6 m⟩)
              clear hfz hput hb1 hc0 hlq
              have hxt : (strOfNums bs).extract 0 bs.length = strOfNums (bs.take m) := by rw [HM4.out]; exact str_take bs _
              have hxd : (strOfNums bs).extract bs.length bs.length = strOfNums (bs.drop m) := by rw [HM4.out]; exact str_drop bs _
              have hsb := fun W s => Lib.run_convert_string_bytes (P := Try.prog) W 9 23 5 s Try.underlying9 Try.underlying23 Try.underlying5
              have HRB := Lib.hid ((RB.bytes (w1.setCell ⟨g, o + z * 4 + 3, none⟩ (.string (strOfNums (bs.drop m)))) 5 (bs.take m) (byt_take k6 m)).more (B' := (Lib.bytesWorld (w1.setCell ⟨g, o + z * 4 + 3, none⟩ (.string (strOfNums (bs.drop m)))) 5 (strOfNums (bs.take m))).heap.size) (by rw [Lib.bytesWorld_size]; exact Nat.le_refl _))
              have HBW := Lib.hid (below_bytes (w1.setCell ⟨g, o + z * 4 + 3, none⟩ (.string (strOfNums (bs.drop m)))) 5 (strOfNums (bs.take m)))
              have hdm : strOfNums (bs.drop m) = ByteArray.empty := by rw [HM4.out, List.drop_length]; rfl
              dsimp only at HG
              rw [hdm] at HG HRB HBW
              clear hxd hdm
              have hsz := strOfNums_size (bs.take m)
              have hlt : (bs.take m).length = m := by rw [List.length_take]; omega
              have HLT := Lib.hid hlt
              rw [hlt] at hsz
              clear hlt
              go_wp2
              go_ret2
              refine ⟨_, m, _, by rw [HR.out]; rfl, ?_, by rw [HRF.out]; exact HG.out.grow HBW.out⟩
              rw [HRO.out]
              have hq := HRB.out
              rw [HLT.out] at hq
              rw [World.size_setCell] at hq
              exact hq
            · obtain rfl : m = k := by omega
              clear hh hte hm hb0
              go_enter Try.func31, Try.ntmps31
              go_wp2_with fail
              refine HW.out.mono ?_
              rintro y w1 ⟨rfl, hb1⟩
              obtain ⟨g, o, rfl, hgl, hgq, hfz, d2, d3, hc1, hl1, hput⟩ := HSTART.out w1 hb1
              have hf3 := hfz (o + z * 4 + 3)
              have HG := Lib.hid (hput { p with bs := bs.drop m } rfl ⟨k1, k2, k3, k4, by dsimp only; rw [List.length_drop]; omega, byt_drop k6 m⟩)
              clear hfz hput hb1 hc0 hlq
              have hxt := str_take bs m
              have hxd := str_drop bs m
              have hsb := fun W s => Lib.run_convert_string_bytes (P := Try.prog) W 9 23 5 s Try.underlying9 Try.underlying23 Try.underlying5
              have HRB := Lib.hid ((RB.bytes (w1.setCell ⟨g, o + z * 4 + 3, none⟩ (.string (strOfNums (bs.drop m)))) 5 (bs.take m) (byt_take k6 m)).more (B' := (Lib.bytesWorld (w1.setCell ⟨g, o + z * 4 + 3, none⟩ (.string (strOfNums (bs.drop m)))) 5 (strOfNums (bs.take m))).heap.size) (by rw [Lib.bytesWorld_size]; exact Nat.le_refl _))
              have HBW := Lib.hid (below_bytes (w1.setCell ⟨g, o + z * 4 + 3, none⟩ (.string (strOfNums (bs.drop m)))) 5 (strOfNums (bs.take m)))
              have hsz := strOfNums_size (bs.take m)
              have hlt : (bs.take m).length = m := by rw [List.length_take]; omega
              have HLT := Lib.hid hlt
              rw [hlt] at hsz
              clear hlt
              go_wp2
              go_ret2
              refine ⟨_, m, _, by rw [HR.out]; rfl, ?_, by rw [HRF.out]; exact HG.out.grow HBW.out⟩
              rw [HRO.out]
              have hq := HRB.out
              rw [HLT.out] at hq
              rw [World.size_setCell] at hq
              exact hq
    · obtain ⟨x, hx⟩ : ∃ x, errE F id 0 = x := ⟨_, rfl⟩
      have h00 := h0
      rw [hx] at h0
      have HR := Lib.hid (read_err hnn hx h0)
      have HX := Lib.hid h0
      have HV : Hid (whoV F id 0 = .tuple #[.int .i64 0, .int .i64 0, .int .i64 x]) := Lib.hid (by unfold whoV; rw [if_pos h00, hx])
      rw [HV.out] at HW
      have hd3 : (x != 0) = true := by simpa using h0
      clear h hx h0 hn hrq h00 hnn
      go_enter Try.func31, Try.ntmps31
      go_wp2_with fail
      refine HW.out.mono ?_
      rintro y w1 ⟨rfl, hb1⟩
      go_wp2
      go_ret2
      exact g_bad HR.out HX.out (H.out.grown hb1)
end
end Go.Proofs.Ythlhjaacjhlkhaa
