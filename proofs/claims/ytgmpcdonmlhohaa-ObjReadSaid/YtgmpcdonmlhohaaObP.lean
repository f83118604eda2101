/- Contract of ringref4.ObjBytes. -/
import Derived.Test.YtgmpcdonmlhohaaObN
import Derived.Test.YtgmpcdonmlhohaaObC
import Derived.Test.YtgmpcdonmlhohaaFlow
import Derived.Deep.Cut
namespace Go.Proofs.Ytgmpcdonmlhohaa
open Go.RowKit
set_option maxHeartbeats 400000
set_option linter.unusedVariables false
set_option linter.unusedSimpArgs false
def ObjPost (w : World) (o : Ob) (ws bs : List Int) (e : Ending) (w' : World) : Prop :=
  ∃ A n c, e = .returned (.tuple #[.slice A n c, .int .i64 (objErr o)]) ∧ RB w' w'.heap.size A n (if objErr o = 0 then objI ws bs o.n0 o.n1 o.n2 o.n3 o.ns o.ds else []) ∧ Below w.heap.size w w'
theorem twoI_len (x : Int) : (twoI x).length = 2 := rfl
theorem strOf_cat4 (M A C D : List Int) (s : ByteArray) : strOfNums M ++ (strOfNums A ++ s ++ strOfNums C ++ strOfNums D) = strOfNums (M ++ (A ++ numI s ++ C ++ D)) := by
  have h : s = strOfNums (numI s) := (strOf_numI s).symm
  calc strOfNums M ++ (strOfNums A ++ s ++ strOfNums C ++ strOfNums D) = strOfNums M ++ (strOfNums A ++ strOfNums (numI s) ++ strOfNums C ++ strOfNums D) := by rw [← h]
    _ = strOfNums (M ++ (A ++ numI s ++ C ++ D)) := by rw [strOfNums_append, strOfNums_append, strOfNums_append, strOfNums_append]
theorem nmI_len (n : Nm) : (nmI n).length = 1 + n.s.size + 2 + 2 := by unfold nmI; simp [numI_len, twoI_len]; omega
theorem ndI_len (n : Nd) : (ndI n).length = 1 + n.s.size + 2 + 2 := by unfold ndI; simp [numI_len, twoI_len]; omega
theorem wordI_flat_len (ws : List Int) : (ws.flatMap wordI).length = 4 * ws.length := by
  induction ws with
  | nil => rfl
  | cons a ws ih => rw [List.flatMap_cons, List.length_append, ih]; simp [wordI, twoI]; omega
set_option maxHeartbeats 4000000 in
set_option maxRecDepth 100000 in
theorem objBytes_any (o : Ob) (w : World) (B : Nat) (ws bs : List Int) (h : o.Full w B ws bs) (hws : ∀ x ∈ ws, 0 ≤ x ∧ x < 4294967296) (hB : B ≤ w.heap.size) (hc2 : o.n2 ≤ o.c2) (hc2' : o.c2 ≤ 9223372036854775807) :
    Calls Try.prog 14 #[.agg o.vals] w (ObjPost w o ws bs) := by
  have hb0 : Below w.heap.size w (w.alloc (.cells o.vals 38)) := (Below.refl _ _).alloc (Nat.le_refl _) _
  have hbox0 : Blk (w.alloc (.cells o.vals 38)) w.heap.size o.vals 38 := Blk.new w _ 38
  have HCK := Lib.hid (fault_any o (w.alloc (.cells o.vals 38)) B (h.read.below' hb0 hB) (by have := hb0.size; omega) hc2 hc2')
  generalize hE : objErr o = E at *
  have HE := Lib.hid hE
  clear hE
  obtain ⟨A0, n0, c0, A1, n1, c1, A2, n2, c2, A3, n3, c3, ns, ds⟩ := o
  have HFull := Lib.hid h
  dsimp only [Ob.vals] at hb0 hbox0 HCK ⊢
  go_enter Try.func14, Try.ntmps14
  go_wp2_with fail
  refine HCK.out.mono ?_
  rintro e w1 ⟨rfl, hb1⟩
  have hbw1 : Below w.heap.size w w1 := hb0.trans (hb1.mono hb0.size)
  have hbox1 := hbox0.fr (Fr.of_grow hb1) (fun h => h)
  clear hb0 hbox0 HCK hb1
  by_cases hz : E = 0
  · subst hz
    have HFit := Lib.hid (obj_zero _ HE.out)
    have hn0 : n0 ≤ 128 := HFit.out.n0
    have hn1 : n1 ≤ 256 := HFit.out.n1
    have hn2 : n2 ≤ 24 := HFit.out.n2
    have hn3 : n3 ≤ 40 := HFit.out.n3
    have hszs : ∀ l, (strOfNums l).size = l.length := strOfNums_size
    have hR : ({ data := #[82, 79, 49] } : ByteArray) = strOfNums [82, 79, 49] := rfl
    have HR := Lib.hid hR
    clear hR
    have hc1' := hbox1.cell
    have hl1 := hbox1.lt
    go_wp2_with fail
    refine (two_any (n0 : Int) _ (by omega)).mono ?_
    rintro e w2 ⟨rfl, hb2⟩
    have hbw2 : Below w.heap.size w w2 := hbw1.trans (hb2.mono hbw1.size)
    have hbox2 := hbox1.fr (Fr.of_grow hb2) (fun h => h)
    clear hb2 hbw1 hbox1 hc1' hl1
    have hc2' := hbox2.cell
    have hl2 := hbox2.lt
    have h2 := twoI_len (n0 : Int)
    go_wp2_with fail
    go_loopw [5, 26] (fun sv i wr => ∃ k : Nat, k ≤ n0 ∧ i = .int .i64 k ∧ sv = .string (strOfNums ([82, 79, 49] ++ twoI (n0 : Int) ++ (ws.take k).flatMap wordI)) ∧ Blk wr w.heap.size #[.slice A0 n0 c0, .slice A1 n1 c1, .slice A2 n2 c2, .slice A3 n3 c3] 38 ∧ Below w.heap.size w wr) (fun _ i _ => n0 - (intOf i).toNat)
    case atStart => exact ⟨0, by omega, rfl, by rw [HR.out, strOfNums_append]; simp, hbox2, hbw2⟩
    case round =>
      clear hbox2 hbw2 hc2' hl2 h2
      obtain ⟨k, hk, rfl, rfl, hbox, hlo⟩ := hrel
      by_cases hlt : k < n0
      · obtain ⟨b, o, rfl, hbB, z0⟩ := (HFull.out.rw.below' hlo hB).at_ hlt
        have hwl : k < ws.length := by rw [HFull.out.rw.len]; exact hlt
        have HS := Lib.hid (flat_take wordI 0 ws k hwl)
        have hx : 0 ≤ ws.getD k 0 ∧ ws.getD k 0 < 4294967296 := hws _ (by rw [List.getD_eq_getElem?_getD, List.getElem?_eq_getElem hwl]; exact List.getElem_mem hwl)
        have hEl : ([82, 79, 49] ++ twoI (n0 : Int) ++ (ws.take k).flatMap wordI).length ≤ 1000 := by
          simp only [List.length_append, wordI_flat_len, twoI_len, List.length_take, List.length_cons, List.length_nil]; omega
        generalize ws.getD k 0 = x at *
        generalize hE5 : [82, 79, 49] ++ twoI (n0 : Int) ++ (ws.take k).flatMap wordI = E5 at *
        have HE5 := Lib.hid hE5
        clear hE5
        have t1 : x.tmod 65536 = x % 65536 := Int.tmod_eq_emod_of_nonneg hx.1
        have t2 : x.tdiv 65536 = x / 65536 := Int.tdiv_eq_ediv_of_nonneg hx.1
        have t5 := twoI_len (x % 65536)
        have t6 := twoI_len (x / 65536)
        have t3 := w64_id (x % 65536) (by omega)
        have t4 := w64_id (x / 65536) (by omega)
        have h01 : 0 ≤ x % 65536 ∧ x % 65536 < 65536 := by omega
        have h02 : 0 ≤ x / 65536 ∧ x / 65536 < 65536 := by omega
        go_wp2_with fail
        refine (two_any (x % 65536) _ h01).mono ?_
        rintro e w4 ⟨rfl, hb4⟩
        go_wp2_with fail
        refine (two_any (x / 65536) _ h02).mono ?_
        rintro e w5 ⟨rfl, hb5⟩
        have hbb := hb4.trans (hb5.mono hb4.size)
        have HB := Lib.hid (hbox.fr (Fr.of_grow hbb) (fun h => h))
        have HL := Lib.hid (hlo.trans (hbb.mono hlo.size))
        clear hb4 hb5 hbb hbox hlo
        go_wp2
        go_roundw
        case rel => exact ⟨k + 1, by omega, by go_num, by rw [HS.out, ← List.append_assoc, HE5.out, wordI, strOfNums_append, strOfNums_append], HB.out, HL.out⟩
        case measure => simp [intOf]; omega
      · obtain rfl : k = n0 := by omega
        rw [List.take_of_length_le (by rw [HFull.out.rw.len]; exact Nat.le_refl _)]
        have hEl : (wordsI ws k).length ≤ 1000 := by
          unfold wordsI
          simp only [List.length_append, wordI_flat_len, twoI_len, List.length_cons, List.length_nil, HFull.out.rw.len]; omega
        change Code.wp _ _ _ _ _
        have HW := Lib.hid (show [82, 79, 49] ++ twoI (k : Int) ++ ws.flatMap wordI = wordsI ws k from rfl)
        rw [HW.out]
        generalize hWS : wordsI ws k = E5 at *
        have HWS := Lib.hid hWS
        clear hWS hlt hk
        have HRB := Lib.hid (HFull.out.rb.below' hlo hB)
        have hbl1 : bs.length = n1 := HFull.out.rb.len
        have hBw : B ≤ wr.heap.size := Nat.le_trans hB hlo.size
        have t5 := twoI_len (n1 : Int)
        have t6 := twoI_len (n2 : Int)
        go_wp2_with fail
        refine wp_region_walk (fun w' => Below wr.heap.size wr w') [[], [], [(43, 1)], [(44, 2)], [(45, 3)], [], [(47, 5)], [(48, 6)], [(46, 4), (49, 7)], [], [(51, 9)], [(52, 10)], [(53, 11)], [(50, 8), (54, 12)], [(42, 0), (55, 13)]]
          [(42, 0), (43, 1), (44, 2), (45, 3), (46, 4), (47, 5), (48, 6), (49, 7), (50, 8), (51, 9), (52, 10), (53, 11), (54, 12), (55, 13), (56, 14)] (by kernel_rfl) (by kernel_rfl) (by kernel_rfl) (Below.refl _ _).drew ?_
        apply Flow.det_step
        · go_light
          intro w1 hC1
          simp only [Flow.fill, Flow.after, Flow.at_, List.nil_append, List.cons_append, List.getD_cons_zero, List.getD_cons_succ, det, forall_eq, List.setIfInBounds_toArray, List.set_cons_zero, List.set_cons_succ, List.drop, List.length]
          have hb3 := hC1
          have hs3 := hb3.size; have hboxx := hbox.fr (Fr.of_grow hb3) (fun h => h); have hcx := hboxx.cell; have hlx := hboxx.lt
          go_wp2
          exact Flow.post_det hb3 (Grow.refl _) rfl rfl
        apply Flow.det_step
        · go_light
          intro w1 hC1
          simp only [Flow.fill, Flow.after, Flow.at_, List.nil_append, List.cons_append, List.getD_cons_zero, List.getD_cons_succ, det, forall_eq, List.setIfInBounds_toArray, List.set_cons_zero, List.set_cons_succ, List.drop, List.length]
          have hb3 := hC1
          have hs3 := hb3.size; have hboxx := hbox.fr (Fr.of_grow hb3) (fun h => h); have hcx := hboxx.cell; have hlx := hboxx.lt
          go_wp2
          exact Flow.post_det hb3 (Grow.refl _) rfl rfl
        apply Flow.det_step
        · go_light
          intro w1 hC1
          simp only [Flow.fill, Flow.after, Flow.at_, List.nil_append, List.cons_append, List.getD_cons_zero, List.getD_cons_succ, det, forall_eq, List.setIfInBounds_toArray, List.set_cons_zero, List.set_cons_succ, List.drop, List.length]
          have hb3 := hC1
          have hs3 := hb3.size; have hboxx := hbox.fr (Fr.of_grow hb3) (fun h => h); have hcx := hboxx.cell; have hlx := hboxx.lt
          go_wp2
          exact Flow.post_det hb3 (Grow.refl _) rfl rfl
        apply Flow.det_step
        · go_light
          intro w1 hC1
          simp only [Flow.fill, Flow.after, Flow.at_, List.nil_append, List.cons_append, List.getD_cons_zero, List.getD_cons_succ, det, forall_eq, List.setIfInBounds_toArray, List.set_cons_zero, List.set_cons_succ, List.drop, List.length]
          have hb3 := hC1
          have hs3 := hb3.size; have hboxx := hbox.fr (Fr.of_grow hb3) (fun h => h); have hcx := hboxx.cell; have hlx := hboxx.lt
          go_wp2
          exact Flow.post_det hb3 (Grow.refl _) rfl rfl
        apply Flow.det_step
        · go_light
          intro w1 hC1
          simp only [Flow.fill, Flow.after, Flow.at_, List.nil_append, List.cons_append, List.getD_cons_zero, List.getD_cons_succ, det, forall_eq, List.setIfInBounds_toArray, List.set_cons_zero, List.set_cons_succ, List.drop, List.length]
          have hb3 := hC1
          have hs3 := hb3.size; have hboxx := hbox.fr (Fr.of_grow hb3) (fun h => h); have hcx := hboxx.cell; have hlx := hboxx.lt
          go_wp2_with (go_at_call 31; refine (two_any ((n1 : Int)) _ (by omega)).mono ?_; rintro e w5 ⟨rfl, hb5⟩)
          exact Flow.post_det (hb3.trans (hb5.mono hs3)) hb5 rfl rfl
        apply Flow.det_step
        · go_light
          intro w1 hC1
          simp only [Flow.fill, Flow.after, Flow.at_, List.nil_append, List.cons_append, List.getD_cons_zero, List.getD_cons_succ, det, forall_eq, List.setIfInBounds_toArray, List.set_cons_zero, List.set_cons_succ, List.drop, List.length]
          have hb3 := hC1
          have hs3 := hb3.size; have hboxx := hbox.fr (Fr.of_grow hb3) (fun h => h); have hcx := hboxx.cell; have hlx := hboxx.lt
          go_wp2
          exact Flow.post_det hb3 (Grow.refl _) rfl rfl
        apply Flow.det_step
        · go_light
          intro w1 hC1
          simp only [Flow.fill, Flow.after, Flow.at_, List.nil_append, List.cons_append, List.getD_cons_zero, List.getD_cons_succ, det, forall_eq, List.setIfInBounds_toArray, List.set_cons_zero, List.set_cons_succ, List.drop, List.length]
          have hb3 := hC1
          have hs3 := hb3.size; have hboxx := hbox.fr (Fr.of_grow hb3) (fun h => h); have hcx := hboxx.cell; have hlx := hboxx.lt
          go_wp2
          exact Flow.post_det hb3 (Grow.refl _) rfl rfl
        apply Flow.det_step
        · go_light
          intro w1 hC1
          simp only [Flow.fill, Flow.after, Flow.at_, List.nil_append, List.cons_append, List.getD_cons_zero, List.getD_cons_succ, det, forall_eq, List.setIfInBounds_toArray, List.set_cons_zero, List.set_cons_succ, List.drop, List.length]
          have hb3 := hC1
          have hs3 := hb3.size; have hboxx := hbox.fr (Fr.of_grow hb3) (fun h => h); have hcx := hboxx.cell; have hlx := hboxx.lt
          have e1 := (HRB.out.below' hb3 (by omega)).conv (P := Try.prog) c1 35 9 5 Try.underlying35 Try.underlying5 Try.underlying9
          go_wp2
          exact Flow.post_det hb3 (Grow.refl _) rfl rfl
        apply Flow.det_step
        · go_light
          intro w1 hC1
          simp only [Flow.fill, Flow.after, Flow.at_, List.nil_append, List.cons_append, List.getD_cons_zero, List.getD_cons_succ, det, forall_eq, List.setIfInBounds_toArray, List.set_cons_zero, List.set_cons_succ, List.drop, List.length]
          have hb3 := hC1
          have hs3 := hb3.size; have hboxx := hbox.fr (Fr.of_grow hb3) (fun h => h); have hcx := hboxx.cell; have hlx := hboxx.lt
          go_wp2
          exact Flow.post_det hb3 (Grow.refl _) rfl rfl
        apply Flow.det_step
        · go_light
          intro w1 hC1
          simp only [Flow.fill, Flow.after, Flow.at_, List.nil_append, List.cons_append, List.getD_cons_zero, List.getD_cons_succ, det, forall_eq, List.setIfInBounds_toArray, List.set_cons_zero, List.set_cons_succ, List.drop, List.length]
          have hb3 := hC1
          have hs3 := hb3.size; have hboxx := hbox.fr (Fr.of_grow hb3) (fun h => h); have hcx := hboxx.cell; have hlx := hboxx.lt
          go_wp2
          exact Flow.post_det hb3 (Grow.refl _) rfl rfl
        apply Flow.det_step
        · go_light
          intro w1 hC1
          simp only [Flow.fill, Flow.after, Flow.at_, List.nil_append, List.cons_append, List.getD_cons_zero, List.getD_cons_succ, det, forall_eq, List.setIfInBounds_toArray, List.set_cons_zero, List.set_cons_succ, List.drop, List.length]
          have hb3 := hC1
          have hs3 := hb3.size; have hboxx := hbox.fr (Fr.of_grow hb3) (fun h => h); have hcx := hboxx.cell; have hlx := hboxx.lt
          go_wp2
          exact Flow.post_det hb3 (Grow.refl _) rfl rfl
        apply Flow.det_step
        · go_light
          intro w1 hC1
          simp only [Flow.fill, Flow.after, Flow.at_, List.nil_append, List.cons_append, List.getD_cons_zero, List.getD_cons_succ, det, forall_eq, List.setIfInBounds_toArray, List.set_cons_zero, List.set_cons_succ, List.drop, List.length]
          have hb3 := hC1
          have hs3 := hb3.size; have hboxx := hbox.fr (Fr.of_grow hb3) (fun h => h); have hcx := hboxx.cell; have hlx := hboxx.lt
          go_wp2
          exact Flow.post_det hb3 (Grow.refl _) rfl rfl
        apply Flow.det_step
        · go_light
          intro w1 hC1
          simp only [Flow.fill, Flow.after, Flow.at_, List.nil_append, List.cons_append, List.getD_cons_zero, List.getD_cons_succ, det, forall_eq, List.setIfInBounds_toArray, List.set_cons_zero, List.set_cons_succ, List.drop, List.length]
          have hb3 := hC1
          have hs3 := hb3.size; have hboxx := hbox.fr (Fr.of_grow hb3) (fun h => h); have hcx := hboxx.cell; have hlx := hboxx.lt
          go_wp2_with (go_at_call 31; refine (two_any ((n2 : Int)) _ (by omega)).mono ?_; rintro e w5 ⟨rfl, hb5⟩)
          exact Flow.post_det (hb3.trans (hb5.mono hs3)) hb5 rfl rfl
        apply Flow.det_step
        · go_light
          intro w1 hC1
          simp only [Flow.fill, Flow.after, Flow.at_, List.nil_append, List.cons_append, List.getD_cons_zero, List.getD_cons_succ, det, forall_eq, List.setIfInBounds_toArray, List.set_cons_zero, List.set_cons_succ, List.drop, List.length]
          have hb3 := hC1
          have hs3 := hb3.size; have hboxx := hbox.fr (Fr.of_grow hb3) (fun h => h); have hcx := hboxx.cell; have hlx := hboxx.lt
          go_wp2
          exact Flow.post_det hb3 (Grow.refl _) rfl rfl
        apply Flow.det_step
        · go_light
          intro w1 hC1
          simp only [Flow.fill, Flow.after, Flow.at_, List.nil_append, List.cons_append, List.getD_cons_zero, List.getD_cons_succ, det, forall_eq, List.setIfInBounds_toArray, List.set_cons_zero, List.set_cons_succ, List.drop, List.length]
          have hb3 := hC1
          have hs3 := hb3.size; have hboxx := hbox.fr (Fr.of_grow hb3) (fun h => h); have hcx := hboxx.cell; have hlx := hboxx.lt
          go_wp2
          exact Flow.post_det hb3 (Grow.refl _) rfl rfl
        intro w1 hC1
        simp only [Flow.fill, Flow.after, Flow.at_, List.nil_append, List.cons_append, List.getD_cons_zero, List.getD_cons_succ, det, forall_eq, List.setIfInBounds_toArray, List.set_cons_zero, List.set_cons_succ, List.drop, List.length]
        have hb3 := hC1
        have hs3 := hb3.size
        have hbox3 := hbox.fr (Fr.of_grow hb3) (fun h => h)
        have hlo3 : Below w.heap.size w w1 := hlo.trans (hb3.mono hlo.size)
        have hcx := hbox3.cell
        have hlx := hbox3.lt
        have HE6 := Lib.hid (show strOfNums E5 ++ (strOfNums (twoI (n1 : Int)) ++ strOfNums bs ++ strOfNums (twoI (n2 : Int))) = strOfNums (dataI ws bs k n1 ++ twoI (n2 : Int)) by
          unfold dataI; rw [HWS.out]; simp only [strOfNums_append, List.append_assoc])
        have hl6 : (dataI ws bs k n1 ++ twoI (n2 : Int) ++ (ns.take 0).flatMap nmI).length ≤ 2000 := by unfold dataI; rw [HWS.out]; simp only [List.length_append, twoI_len, List.take_zero, List.flatMap_nil, List.length_nil, hbl1]; omega
        have HL6 := Lib.hid hl6
        clear hbox hlo hb3 hEl HW hl6
        go_wp2_with fail
        rw [HE6.out]
        go_loopw [5, 60] (fun sv i wr => ∃ j m : Nat, j ≤ n2 ∧ m ≤ 2000 + 300 * j ∧ i = .int .i64 j ∧ sv = .string (strOfNums (dataI ws bs k n1 ++ twoI (n2 : Int) ++ (ns.take j).flatMap nmI)) ∧ Hid ((dataI ws bs k n1 ++ twoI (n2 : Int) ++ (ns.take j).flatMap nmI).length = m) ∧ Blk wr w.heap.size #[.slice A0 k c0, .slice A1 n1 c1, .slice A2 n2 c2, .slice A3 n3 c3] 38 ∧ Below w.heap.size w wr) (fun _ i _ => n2 - (intOf i).toNat)
        case atStart => exact ⟨0, _, by omega, HL6.out, rfl, by simp, Lib.hid rfl, hbox3, hlo3⟩
        case round =>
          clear hbox3 hlo3 hcx hlx HL6
          obtain ⟨j, m, hj, hm, rfl, rfl, HM, hbox, hlo⟩ := hrel
          by_cases hjl : j < n2
          · skip
            obtain ⟨b, o, e2, hbB, hfn, z0, z1, z2, z3⟩ := (HFull.out.read.ns.below' hlo hB).at_ hjl
            have hnl : j < ns.length := by rw [HFull.out.read.ns.len]; exact hjl
            have HS := Lib.hid (flat_take nmI Nm.zero ns j hnl)
            have hfit := HFit.out.ns (ns.getD j .zero) (by rw [List.getD_eq_getElem?_getD, List.getElem?_eq_getElem hnl]; exact List.getElem_mem hnl)
            subst e2
            obtain ⟨f1, f2, f3, f4⟩ := hfit
            generalize ns.getD j .zero = y at *
            have hjl' : (j : Int) < n2 := by omega
            generalize hMM : dataI ws bs k n1 ++ twoI (n2 : Int) ++ (ns.take j).flatMap nmI = M at *
            have HMM := Lib.hid hMM
            clear hMM
            have hMl : M.length ≤ 10000 := by rw [HM.out]; omega
            have hby : Blk (wr.alloc (.cells #[.string y.s, .int .i64 y.wh, .int .i64 y.ad, .bool y.wk] 69)) wr.heap.size #[.string y.s, .int .i64 y.wh, .int .i64 y.ad, .bool y.wk] 69 := Blk.new _ _ _
            have hbox9 := hbox.alloc (.cells #[.string y.s, .int .i64 y.wh, .int .i64 y.ad, .bool y.wk] 69)
            have hlo9 := hlo.alloc hlo.size (.cells #[.string y.s, .int .i64 y.wh, .int .i64 y.ad, .bool y.wk] 69)
            clear hbox hlo
            have hc0 := hby.cell
            have hl0 := hby.lt
            go_upto_region 14 with fail
            generalize wr.alloc (.cells #[.string y.s, .int .i64 y.wh, .int .i64 y.ad, .bool y.wk] 69) = W9 at *
            generalize wr.heap.size = q9 at *
            clear z0 z1 z2 z3
            cases hwk : y.wk with
            | true =>
                rw [hwk] at hc0 hby
                have HW := Lib.hid (show strOfNums M ++ (strOfNums [(y.s.size : Int)] ++ y.s ++ strOfNums (twoI (y.wh + 4)) ++ strOfNums (twoI y.ad)) = strOfNums (M ++ nmI y) by
                  have e : nmI y = [(y.s.size : Int)] ++ numI y.s ++ twoI (y.wh + 4) ++ twoI y.ad := by simp [nmI, hwk]
                  rw [e, ← strOf_cat4])
                clear hwk
                have t5 := twoI_len (y.wh + 4)
                have t6 := twoI_len y.ad
                go_wp2_with fail
                refine wp_region_walk (fun w' => Below W9.heap.size W9 w') [[], [], [(71, 1)], [(72, 2)], [(73, 3)], [(74, 4)], [(75, 5)], [], [(77, 7)], [(76, 6), (78, 8)], [], [(80, 10)], [(79, 9), (81, 11)], [], [(83, 13)], [(84, 14)], [(82, 12), (85, 15)], [(70, 0), (86, 16)]]
                  [(70, 0), (71, 1), (72, 2), (73, 3), (74, 4), (75, 5), (76, 6), (77, 7), (78, 8), (79, 9), (80, 10), (81, 11), (82, 12), (83, 13), (84, 14), (85, 15), (86, 16), (87, 17)] (by kernel_rfl) (by kernel_rfl) (by kernel_rfl) (Below.refl _ _).drew ?_
                apply Flow.det_step
                · go_light
                  intro w1 hC1
                  simp only [Flow.fill, Flow.after, Flow.at_, List.nil_append, List.cons_append, List.getD_cons_zero, List.getD_cons_succ, det, forall_eq, List.setIfInBounds_toArray, List.set_cons_zero, List.set_cons_succ, List.drop, List.length]
                  have hb3 := hC1
                  have hs3 := hb3.size; have hbyy := hby.fr (Fr.of_grow hb3) (fun h => h); have hcx := hbyy.cell; have hlx := hbyy.lt
                  go_wp2
                  exact Flow.post_det hb3 (Grow.refl _) rfl rfl
                apply Flow.det_step
                · go_light
                  intro w1 hC1
                  simp only [Flow.fill, Flow.after, Flow.at_, List.nil_append, List.cons_append, List.getD_cons_zero, List.getD_cons_succ, det, forall_eq, List.setIfInBounds_toArray, List.set_cons_zero, List.set_cons_succ, List.drop, List.length]
                  have hb3 := hC1
                  have hs3 := hb3.size; have hbyy := hby.fr (Fr.of_grow hb3) (fun h => h); have hcx := hbyy.cell; have hlx := hbyy.lt
                  go_wp2
                  exact Flow.post_det hb3 (Grow.refl _) rfl rfl
                apply Flow.det_step
                · go_light
                  intro w1 hC1
                  simp only [Flow.fill, Flow.after, Flow.at_, List.nil_append, List.cons_append, List.getD_cons_zero, List.getD_cons_succ, det, forall_eq, List.setIfInBounds_toArray, List.set_cons_zero, List.set_cons_succ, List.drop, List.length]
                  have hb3 := hC1
                  have hs3 := hb3.size; have hbyy := hby.fr (Fr.of_grow hb3) (fun h => h); have hcx := hbyy.cell; have hlx := hbyy.lt
                  go_wp2
                  exact Flow.post_det hb3 (Grow.refl _) rfl rfl
                apply Flow.det_step
                · go_light
                  intro w1 hC1
                  simp only [Flow.fill, Flow.after, Flow.at_, List.nil_append, List.cons_append, List.getD_cons_zero, List.getD_cons_succ, det, forall_eq, List.setIfInBounds_toArray, List.set_cons_zero, List.set_cons_succ, List.drop, List.length]
                  have hb3 := hC1
                  have hs3 := hb3.size; have hbyy := hby.fr (Fr.of_grow hb3) (fun h => h); have hcx := hbyy.cell; have hlx := hbyy.lt
                  go_wp2
                  exact Flow.post_det hb3 (Grow.refl _) rfl rfl
                apply Flow.det_step
                · go_light
                  intro w1 hC1
                  simp only [Flow.fill, Flow.after, Flow.at_, List.nil_append, List.cons_append, List.getD_cons_zero, List.getD_cons_succ, det, forall_eq, List.setIfInBounds_toArray, List.set_cons_zero, List.set_cons_succ, List.drop, List.length]
                  have hb3 := hC1
                  have hs3 := hb3.size; have hbyy := hby.fr (Fr.of_grow hb3) (fun h => h); have hcx := hbyy.cell; have hlx := hbyy.lt
                  go_wp2
                  exact Flow.post_det hb3 (Grow.refl _) rfl rfl
                refine Flow.st_step (freshSt (fun g => .slice (some ⟨g, 0, none⟩) 1 1) [.int .u8 (y.s.size : Int)]) ?_ ?_
                · go_light
                  intro w1 hC1
                  simp only [Flow.fill, Flow.after, Flow.at_, List.nil_append, List.cons_append, List.getD_cons_zero, List.getD_cons_succ, det, forall_eq, List.setIfInBounds_toArray, List.set_cons_zero, List.set_cons_succ, List.drop, List.length]
                  have hb3 := hC1
                  have hs3 := hb3.size; have hbyy := hby.fr (Fr.of_grow hb3) (fun h => h); have hcx := hbyy.cell; have hlx := hbyy.lt
                  go_wp2
                  exact Flow.post_st (hb3.alloc hs3 _) (Grow.alloc _ _) rfl rfl (fresh_alloc _ _ [.int .u8 (y.s.size : Int)] _ (by rfl))
                apply Flow.det_step
                · go_light
                  intro w1 hC1
                  simp only [Flow.fill, Flow.after, Flow.at_, List.nil_append, List.cons_append, List.getD_cons_zero, List.getD_cons_succ, det, forall_eq, List.setIfInBounds_toArray, List.set_cons_zero, List.set_cons_succ, List.drop, List.length]
                  rintro _ ⟨g5, rfl, hg5, hcs5⟩
                  have hb3 := hC1
                  have hs3 := hb3.size; have hbyy := hby.fr (Fr.of_grow hb3) (fun h => h); have hcx := hbyy.cell; have hlx := hbyy.lt
                  have hr1 : RB w1 (g5 + 1) (some ⟨g5, 0, none⟩) 1 [(y.s.size : Int)] := ⟨⟨rfl, fun _ => ⟨g5, 0, rfl, by omega, fun j u hu => by rw [Nat.zero_add]; exact hcs5 j u hu⟩⟩, Byt.one (by omega)⟩
                  have e1 := hr1.conv (P := Try.prog) 1 35 9 5 Try.underlying35 Try.underlying5 Try.underlying9
                  clear hr1 hcs5
                  go_wp2
                  exact Flow.post_det hb3 (Grow.refl _) rfl rfl
                apply Flow.det_step
                · go_light
                  intro w1 hC1
                  simp only [Flow.fill, Flow.after, Flow.at_, List.nil_append, List.cons_append, List.getD_cons_zero, List.getD_cons_succ, det, forall_eq, List.setIfInBounds_toArray, List.set_cons_zero, List.set_cons_succ, List.drop, List.length]
                  have hb3 := hC1
                  have hs3 := hb3.size; have hbyy := hby.fr (Fr.of_grow hb3) (fun h => h); have hcx := hbyy.cell; have hlx := hbyy.lt
                  go_wp2
                  exact Flow.post_det hb3 (Grow.refl _) rfl rfl
                apply Flow.det_step
                · go_light
                  intro w1 hC1
                  simp only [Flow.fill, Flow.after, Flow.at_, List.nil_append, List.cons_append, List.getD_cons_zero, List.getD_cons_succ, det, forall_eq, List.setIfInBounds_toArray, List.set_cons_zero, List.set_cons_succ, List.drop, List.length]
                  have hb3 := hC1
                  have hs3 := hb3.size; have hbyy := hby.fr (Fr.of_grow hb3) (fun h => h); have hcx := hbyy.cell; have hlx := hbyy.lt
                  go_wp2
                  exact Flow.post_det hb3 (Grow.refl _) rfl rfl
                apply Flow.det_step
                · go_light
                  intro w1 hC1
                  simp only [Flow.fill, Flow.after, Flow.at_, List.nil_append, List.cons_append, List.getD_cons_zero, List.getD_cons_succ, det, forall_eq, List.setIfInBounds_toArray, List.set_cons_zero, List.set_cons_succ, List.drop, List.length]
                  have hb3 := hC1
                  have hs3 := hb3.size; have hbyy := hby.fr (Fr.of_grow hb3) (fun h => h); have hcx := hbyy.cell; have hlx := hbyy.lt
                  go_wp2
                  exact Flow.post_det hb3 (Grow.refl _) rfl rfl
                apply Flow.det_step
                · go_light
                  intro w1 hC1
                  simp only [Flow.fill, Flow.after, Flow.at_, List.nil_append, List.cons_append, List.getD_cons_zero, List.getD_cons_succ, det, forall_eq, List.setIfInBounds_toArray, List.set_cons_zero, List.set_cons_succ, List.drop, List.length]
                  have hb3 := hC1
                  have hs3 := hb3.size; have hbyy := hby.fr (Fr.of_grow hb3) (fun h => h); have hcx := hbyy.cell; have hlx := hbyy.lt
                  go_wp2
                  exact Flow.post_det hb3 (Grow.refl _) rfl rfl
                apply Flow.det_step
                · go_light
                  intro w1 hC1
                  simp only [Flow.fill, Flow.after, Flow.at_, List.nil_append, List.cons_append, List.getD_cons_zero, List.getD_cons_succ, det, forall_eq, List.setIfInBounds_toArray, List.set_cons_zero, List.set_cons_succ, List.drop, List.length]
                  have hb3 := hC1
                  have hs3 := hb3.size; have hbyy := hby.fr (Fr.of_grow hb3) (fun h => h); have hcx := hbyy.cell; have hlx := hbyy.lt
                  go_wp2_with (go_at_call 31; refine (two_any (y.wh + 4) _ (by omega)).mono ?_; rintro e w5 ⟨rfl, hb5⟩)
                  exact Flow.post_det (hb3.trans (hb5.mono hs3)) hb5 rfl rfl
                apply Flow.det_step
                · go_light
                  intro w1 hC1
                  simp only [Flow.fill, Flow.after, Flow.at_, List.nil_append, List.cons_append, List.getD_cons_zero, List.getD_cons_succ, det, forall_eq, List.setIfInBounds_toArray, List.set_cons_zero, List.set_cons_succ, List.drop, List.length]
                  have hb3 := hC1
                  have hs3 := hb3.size; have hbyy := hby.fr (Fr.of_grow hb3) (fun h => h); have hcx := hbyy.cell; have hlx := hbyy.lt
                  go_wp2
                  exact Flow.post_det hb3 (Grow.refl _) rfl rfl
                apply Flow.det_step
                · go_light
                  intro w1 hC1
                  simp only [Flow.fill, Flow.after, Flow.at_, List.nil_append, List.cons_append, List.getD_cons_zero, List.getD_cons_succ, det, forall_eq, List.setIfInBounds_toArray, List.set_cons_zero, List.set_cons_succ, List.drop, List.length]
                  have hb3 := hC1
                  have hs3 := hb3.size; have hbyy := hby.fr (Fr.of_grow hb3) (fun h => h); have hcx := hbyy.cell; have hlx := hbyy.lt
                  go_wp2
                  exact Flow.post_det hb3 (Grow.refl _) rfl rfl
                apply Flow.det_step
                · go_light
                  intro w1 hC1
                  simp only [Flow.fill, Flow.after, Flow.at_, List.nil_append, List.cons_append, List.getD_cons_zero, List.getD_cons_succ, det, forall_eq, List.setIfInBounds_toArray, List.set_cons_zero, List.set_cons_succ, List.drop, List.length]
                  have hb3 := hC1
                  have hs3 := hb3.size; have hbyy := hby.fr (Fr.of_grow hb3) (fun h => h); have hcx := hbyy.cell; have hlx := hbyy.lt
                  go_wp2
                  exact Flow.post_det hb3 (Grow.refl _) rfl rfl
                apply Flow.det_step
                · go_light
                  intro w1 hC1
                  simp only [Flow.fill, Flow.after, Flow.at_, List.nil_append, List.cons_append, List.getD_cons_zero, List.getD_cons_succ, det, forall_eq, List.setIfInBounds_toArray, List.set_cons_zero, List.set_cons_succ, List.drop, List.length]
                  have hb3 := hC1
                  have hs3 := hb3.size; have hbyy := hby.fr (Fr.of_grow hb3) (fun h => h); have hcx := hbyy.cell; have hlx := hbyy.lt
                  go_wp2_with (go_at_call 31; refine (two_any (y.ad) _ (by omega)).mono ?_; rintro e w5 ⟨rfl, hb5⟩)
                  exact Flow.post_det (hb3.trans (hb5.mono hs3)) hb5 rfl rfl
                apply Flow.det_step
                · go_light
                  intro w1 hC1
                  simp only [Flow.fill, Flow.after, Flow.at_, List.nil_append, List.cons_append, List.getD_cons_zero, List.getD_cons_succ, det, forall_eq, List.setIfInBounds_toArray, List.set_cons_zero, List.set_cons_succ, List.drop, List.length]
                  have hb3 := hC1
                  have hs3 := hb3.size; have hbyy := hby.fr (Fr.of_grow hb3) (fun h => h); have hcx := hbyy.cell; have hlx := hbyy.lt
                  go_wp2
                  exact Flow.post_det hb3 (Grow.refl _) rfl rfl
                apply Flow.det_step
                · go_light
                  intro w1 hC1
                  simp only [Flow.fill, Flow.after, Flow.at_, List.nil_append, List.cons_append, List.getD_cons_zero, List.getD_cons_succ, det, forall_eq, List.setIfInBounds_toArray, List.set_cons_zero, List.set_cons_succ, List.drop, List.length]
                  have hb3 := hC1
                  have hs3 := hb3.size; have hbyy := hby.fr (Fr.of_grow hb3) (fun h => h); have hcx := hbyy.cell; have hlx := hbyy.lt
                  go_wp2
                  exact Flow.post_det hb3 (Grow.refl _) rfl rfl
                intro w1 hC1
                simp only [Flow.fill, Flow.after, Flow.at_, List.nil_append, List.cons_append, List.getD_cons_zero, List.getD_cons_succ, det, forall_eq, List.setIfInBounds_toArray, List.set_cons_zero, List.set_cons_succ, List.drop, List.length]
                rintro _ ⟨g5, rfl, hg5, hcs5⟩
                have hb3 := hC1
                have hs3 := hb3.size
                have HB := Lib.hid (hbox9.fr (Fr.of_grow hb3) (fun h => h))
                have HLO := Lib.hid (hlo9.trans (hb3.mono hlo9.size))
                clear hbox9 hlo9 hb3
                go_wp2
                go_roundw
                case rel => exact ⟨j + 1, m + (1 + y.s.size + 2 + 2), by omega, by omega, by go_num, by rw [HS.out, ← List.append_assoc, HMM.out, ← HW.out], Lib.hid (by rw [HS.out, ← List.append_assoc, HMM.out, List.length_append, HM.out, nmI_len]), HB.out, HLO.out⟩
                case measure => simp [intOf]; omega
            | false =>
                rw [hwk] at hc0 hby
                have HW := Lib.hid (show strOfNums M ++ (strOfNums [(y.s.size : Int)] ++ y.s ++ strOfNums (twoI (y.wh)) ++ strOfNums (twoI y.ad)) = strOfNums (M ++ nmI y) by
                  have e : nmI y = [(y.s.size : Int)] ++ numI y.s ++ twoI (y.wh) ++ twoI y.ad := by simp [nmI, hwk]
                  rw [e, ← strOf_cat4])
                clear hwk
                have t5 := twoI_len (y.wh)
                have t6 := twoI_len y.ad
                go_wp2_with fail
                refine wp_region_walk (fun w' => Below W9.heap.size W9 w') [[], [], [(71, 1)], [(72, 2)], [(73, 3)], [(74, 4)], [(75, 5)], [], [(77, 7)], [(76, 6), (78, 8)], [], [(80, 10)], [(79, 9), (81, 11)], [], [(83, 13)], [(84, 14)], [(82, 12), (85, 15)], [(70, 0), (86, 16)]]
                  [(70, 0), (71, 1), (72, 2), (73, 3), (74, 4), (75, 5), (76, 6), (77, 7), (78, 8), (79, 9), (80, 10), (81, 11), (82, 12), (83, 13), (84, 14), (85, 15), (86, 16), (87, 17)] (by kernel_rfl) (by kernel_rfl) (by kernel_rfl) (Below.refl _ _).drew ?_
                apply Flow.det_step
                · go_light
                  intro w1 hC1
                  simp only [Flow.fill, Flow.after, Flow.at_, List.nil_append, List.cons_append, List.getD_cons_zero, List.getD_cons_succ, det, forall_eq, List.setIfInBounds_toArray, List.set_cons_zero, List.set_cons_succ, List.drop, List.length]
                  have hb3 := hC1
                  have hs3 := hb3.size; have hbyy := hby.fr (Fr.of_grow hb3) (fun h => h); have hcx := hbyy.cell; have hlx := hbyy.lt
                  go_wp2
                  exact Flow.post_det hb3 (Grow.refl _) rfl rfl
                apply Flow.det_step
                · go_light
                  intro w1 hC1
                  simp only [Flow.fill, Flow.after, Flow.at_, List.nil_append, List.cons_append, List.getD_cons_zero, List.getD_cons_succ, det, forall_eq, List.setIfInBounds_toArray, List.set_cons_zero, List.set_cons_succ, List.drop, List.length]
                  have hb3 := hC1
                  have hs3 := hb3.size; have hbyy := hby.fr (Fr.of_grow hb3) (fun h => h); have hcx := hbyy.cell; have hlx := hbyy.lt
                  go_wp2
                  exact Flow.post_det hb3 (Grow.refl _) rfl rfl
                apply Flow.det_step
                · go_light
                  intro w1 hC1
                  simp only [Flow.fill, Flow.after, Flow.at_, List.nil_append, List.cons_append, List.getD_cons_zero, List.getD_cons_succ, det, forall_eq, List.setIfInBounds_toArray, List.set_cons_zero, List.set_cons_succ, List.drop, List.length]
                  have hb3 := hC1
                  have hs3 := hb3.size; have hbyy := hby.fr (Fr.of_grow hb3) (fun h => h); have hcx := hbyy.cell; have hlx := hbyy.lt
                  go_wp2
                  exact Flow.post_det hb3 (Grow.refl _) rfl rfl
                apply Flow.det_step
                · go_light
                  intro w1 hC1
                  simp only [Flow.fill, Flow.after, Flow.at_, List.nil_append, List.cons_append, List.getD_cons_zero, List.getD_cons_succ, det, forall_eq, List.setIfInBounds_toArray, List.set_cons_zero, List.set_cons_succ, List.drop, List.length]
                  have hb3 := hC1
                  have hs3 := hb3.size; have hbyy := hby.fr (Fr.of_grow hb3) (fun h => h); have hcx := hbyy.cell; have hlx := hbyy.lt
                  go_wp2
                  exact Flow.post_det hb3 (Grow.refl _) rfl rfl
                apply Flow.det_step
                · go_light
                  intro w1 hC1
                  simp only [Flow.fill, Flow.after, Flow.at_, List.nil_append, List.cons_append, List.getD_cons_zero, List.getD_cons_succ, det, forall_eq, List.setIfInBounds_toArray, List.set_cons_zero, List.set_cons_succ, List.drop, List.length]
                  have hb3 := hC1
                  have hs3 := hb3.size; have hbyy := hby.fr (Fr.of_grow hb3) (fun h => h); have hcx := hbyy.cell; have hlx := hbyy.lt
                  go_wp2
                  exact Flow.post_det hb3 (Grow.refl _) rfl rfl
                refine Flow.st_step (freshSt (fun g => .slice (some ⟨g, 0, none⟩) 1 1) [.int .u8 (y.s.size : Int)]) ?_ ?_
                · go_light
                  intro w1 hC1
                  simp only [Flow.fill, Flow.after, Flow.at_, List.nil_append, List.cons_append, List.getD_cons_zero, List.getD_cons_succ, det, forall_eq, List.setIfInBounds_toArray, List.set_cons_zero, List.set_cons_succ, List.drop, List.length]
                  have hb3 := hC1
                  have hs3 := hb3.size; have hbyy := hby.fr (Fr.of_grow hb3) (fun h => h); have hcx := hbyy.cell; have hlx := hbyy.lt
                  go_wp2
                  exact Flow.post_st (hb3.alloc hs3 _) (Grow.alloc _ _) rfl rfl (fresh_alloc _ _ [.int .u8 (y.s.size : Int)] _ (by rfl))
                apply Flow.det_step
                · go_light
                  intro w1 hC1
                  simp only [Flow.fill, Flow.after, Flow.at_, List.nil_append, List.cons_append, List.getD_cons_zero, List.getD_cons_succ, det, forall_eq, List.setIfInBounds_toArray, List.set_cons_zero, List.set_cons_succ, List.drop, List.length]
                  rintro _ ⟨g5, rfl, hg5, hcs5⟩
                  have hb3 := hC1
                  have hs3 := hb3.size; have hbyy := hby.fr (Fr.of_grow hb3) (fun h => h); have hcx := hbyy.cell; have hlx := hbyy.lt
                  have hr1 : RB w1 (g5 + 1) (some ⟨g5, 0, none⟩) 1 [(y.s.size : Int)] := ⟨⟨rfl, fun _ => ⟨g5, 0, rfl, by omega, fun j u hu => by rw [Nat.zero_add]; exact hcs5 j u hu⟩⟩, Byt.one (by omega)⟩
                  have e1 := hr1.conv (P := Try.prog) 1 35 9 5 Try.underlying35 Try.underlying5 Try.underlying9
                  clear hr1 hcs5
                  go_wp2
                  exact Flow.post_det hb3 (Grow.refl _) rfl rfl
                apply Flow.det_step
                · go_light
                  intro w1 hC1
                  simp only [Flow.fill, Flow.after, Flow.at_, List.nil_append, List.cons_append, List.getD_cons_zero, List.getD_cons_succ, det, forall_eq, List.setIfInBounds_toArray, List.set_cons_zero, List.set_cons_succ, List.drop, List.length]
                  have hb3 := hC1
                  have hs3 := hb3.size; have hbyy := hby.fr (Fr.of_grow hb3) (fun h => h); have hcx := hbyy.cell; have hlx := hbyy.lt
                  go_wp2
                  exact Flow.post_det hb3 (Grow.refl _) rfl rfl
                apply Flow.det_step
                · go_light
                  intro w1 hC1
                  simp only [Flow.fill, Flow.after, Flow.at_, List.nil_append, List.cons_append, List.getD_cons_zero, List.getD_cons_succ, det, forall_eq, List.setIfInBounds_toArray, List.set_cons_zero, List.set_cons_succ, List.drop, List.length]
                  have hb3 := hC1
                  have hs3 := hb3.size; have hbyy := hby.fr (Fr.of_grow hb3) (fun h => h); have hcx := hbyy.cell; have hlx := hbyy.lt
                  go_wp2
                  exact Flow.post_det hb3 (Grow.refl _) rfl rfl
                apply Flow.det_step
                · go_light
                  intro w1 hC1
                  simp only [Flow.fill, Flow.after, Flow.at_, List.nil_append, List.cons_append, List.getD_cons_zero, List.getD_cons_succ, det, forall_eq, List.setIfInBounds_toArray, List.set_cons_zero, List.set_cons_succ, List.drop, List.length]
                  have hb3 := hC1
                  have hs3 := hb3.size; have hbyy := hby.fr (Fr.of_grow hb3) (fun h => h); have hcx := hbyy.cell; have hlx := hbyy.lt
                  go_wp2
                  exact Flow.post_det hb3 (Grow.refl _) rfl rfl
                apply Flow.det_step
                · go_light
                  intro w1 hC1
                  simp only [Flow.fill, Flow.after, Flow.at_, List.nil_append, List.cons_append, List.getD_cons_zero, List.getD_cons_succ, det, forall_eq, List.setIfInBounds_toArray, List.set_cons_zero, List.set_cons_succ, List.drop, List.length]
                  have hb3 := hC1
                  have hs3 := hb3.size; have hbyy := hby.fr (Fr.of_grow hb3) (fun h => h); have hcx := hbyy.cell; have hlx := hbyy.lt
                  go_wp2
                  exact Flow.post_det hb3 (Grow.refl _) rfl rfl
                apply Flow.det_step
                · go_light
                  intro w1 hC1
                  simp only [Flow.fill, Flow.after, Flow.at_, List.nil_append, List.cons_append, List.getD_cons_zero, List.getD_cons_succ, det, forall_eq, List.setIfInBounds_toArray, List.set_cons_zero, List.set_cons_succ, List.drop, List.length]
                  have hb3 := hC1
                  have hs3 := hb3.size; have hbyy := hby.fr (Fr.of_grow hb3) (fun h => h); have hcx := hbyy.cell; have hlx := hbyy.lt
                  go_wp2_with (go_at_call 31; refine (two_any (y.wh) _ (by omega)).mono ?_; rintro e w5 ⟨rfl, hb5⟩)
                  exact Flow.post_det (hb3.trans (hb5.mono hs3)) hb5 rfl rfl
                apply Flow.det_step
                · go_light
                  intro w1 hC1
                  simp only [Flow.fill, Flow.after, Flow.at_, List.nil_append, List.cons_append, List.getD_cons_zero, List.getD_cons_succ, det, forall_eq, List.setIfInBounds_toArray, List.set_cons_zero, List.set_cons_succ, List.drop, List.length]
                  have hb3 := hC1
                  have hs3 := hb3.size; have hbyy := hby.fr (Fr.of_grow hb3) (fun h => h); have hcx := hbyy.cell; have hlx := hbyy.lt
                  go_wp2
                  exact Flow.post_det hb3 (Grow.refl _) rfl rfl
                apply Flow.det_step
                · go_light
                  intro w1 hC1
                  simp only [Flow.fill, Flow.after, Flow.at_, List.nil_append, List.cons_append, List.getD_cons_zero, List.getD_cons_succ, det, forall_eq, List.setIfInBounds_toArray, List.set_cons_zero, List.set_cons_succ, List.drop, List.length]
                  have hb3 := hC1
                  have hs3 := hb3.size; have hbyy := hby.fr (Fr.of_grow hb3) (fun h => h); have hcx := hbyy.cell; have hlx := hbyy.lt
                  go_wp2
                  exact Flow.post_det hb3 (Grow.refl _) rfl rfl
                apply Flow.det_step
                · go_light
                  intro w1 hC1
                  simp only [Flow.fill, Flow.after, Flow.at_, List.nil_append, List.cons_append, List.getD_cons_zero, List.getD_cons_succ, det, forall_eq, List.setIfInBounds_toArray, List.set_cons_zero, List.set_cons_succ, List.drop, List.length]
                  have hb3 := hC1
                  have hs3 := hb3.size; have hbyy := hby.fr (Fr.of_grow hb3) (fun h => h); have hcx := hbyy.cell; have hlx := hbyy.lt
                  go_wp2
                  exact Flow.post_det hb3 (Grow.refl _) rfl rfl
                apply Flow.det_step
                · go_light
                  intro w1 hC1
                  simp only [Flow.fill, Flow.after, Flow.at_, List.nil_append, List.cons_append, List.getD_cons_zero, List.getD_cons_succ, det, forall_eq, List.setIfInBounds_toArray, List.set_cons_zero, List.set_cons_succ, List.drop, List.length]
                  have hb3 := hC1
                  have hs3 := hb3.size; have hbyy := hby.fr (Fr.of_grow hb3) (fun h => h); have hcx := hbyy.cell; have hlx := hbyy.lt
                  go_wp2_with (go_at_call 31; refine (two_any (y.ad) _ (by omega)).mono ?_; rintro e w5 ⟨rfl, hb5⟩)
                  exact Flow.post_det (hb3.trans (hb5.mono hs3)) hb5 rfl rfl
                apply Flow.det_step
                · go_light
                  intro w1 hC1
                  simp only [Flow.fill, Flow.after, Flow.at_, List.nil_append, List.cons_append, List.getD_cons_zero, List.getD_cons_succ, det, forall_eq, List.setIfInBounds_toArray, List.set_cons_zero, List.set_cons_succ, List.drop, List.length]
                  have hb3 := hC1
                  have hs3 := hb3.size; have hbyy := hby.fr (Fr.of_grow hb3) (fun h => h); have hcx := hbyy.cell; have hlx := hbyy.lt
                  go_wp2
                  exact Flow.post_det hb3 (Grow.refl _) rfl rfl
                apply Flow.det_step
                · go_light
                  intro w1 hC1
                  simp only [Flow.fill, Flow.after, Flow.at_, List.nil_append, List.cons_append, List.getD_cons_zero, List.getD_cons_succ, det, forall_eq, List.setIfInBounds_toArray, List.set_cons_zero, List.set_cons_succ, List.drop, List.length]
                  have hb3 := hC1
                  have hs3 := hb3.size; have hbyy := hby.fr (Fr.of_grow hb3) (fun h => h); have hcx := hbyy.cell; have hlx := hbyy.lt
                  go_wp2
                  exact Flow.post_det hb3 (Grow.refl _) rfl rfl
                intro w1 hC1
                simp only [Flow.fill, Flow.after, Flow.at_, List.nil_append, List.cons_append, List.getD_cons_zero, List.getD_cons_succ, det, forall_eq, List.setIfInBounds_toArray, List.set_cons_zero, List.set_cons_succ, List.drop, List.length]
                rintro _ ⟨g5, rfl, hg5, hcs5⟩
                have hb3 := hC1
                have hs3 := hb3.size
                have HB := Lib.hid (hbox9.fr (Fr.of_grow hb3) (fun h => h))
                have HLO := Lib.hid (hlo9.trans (hb3.mono hlo9.size))
                clear hbox9 hlo9 hb3
                go_wp2
                go_roundw
                case rel => exact ⟨j + 1, m + (1 + y.s.size + 2 + 2), by omega, by omega, by go_num, by rw [HS.out, ← List.append_assoc, HMM.out, ← HW.out], Lib.hid (by rw [HS.out, ← List.append_assoc, HMM.out, List.length_append, HM.out, nmI_len]), HB.out, HLO.out⟩
                case measure => simp [intOf]; omega
          · skip
            obtain rfl : j = n2 := by omega
            rw [List.take_of_length_le (by rw [HFull.out.read.ns.len]; exact Nat.le_refl _)] at *
            have hcx := hbox.cell
            have hlx := hbox.lt
            generalize hMM : dataI ws bs k n1 ++ twoI (j : Int) ++ ns.flatMap nmI = M0 at *
            have HMM0 := Lib.hid (show namesI ws bs k n1 j ns = M0 from hMM)
            clear hMM
            have hMl : M0.length ≤ 10000 := by rw [HM.out]; omega
            have t5 := twoI_len (n3 : Int)
            go_wp2_with fail
            refine (two_any (n3 : Int) _ (by omega)).mono ?_
            rintro e w4 ⟨rfl, hb4⟩
            have hbox4 := hbox.fr (Fr.of_grow hb4) (fun h => h)
            have hlo4 : Below w.heap.size w w4 := hlo.trans (hb4.mono hlo.size)
            clear hbox hlo hb4 hcx hlx
            have hcx := hbox4.cell
            have hlx := hbox4.lt
            have HL2 := Lib.hid (show (M0 ++ twoI (n3 : Int)).length = m + 2 by rw [List.length_append, HM.out, twoI_len])
            go_wp2_with fail
            rw [strOfNums_append]
            clear hcx hlx
            go_loopw [5, 98] (fun sv i wr => ∃ q m : Nat, q ≤ n3 ∧ m ≤ 10002 + 300 * q ∧ i = .int .i64 q ∧ sv = .string (strOfNums (M0 ++ twoI (n3 : Int) ++ (ds.take q).flatMap ndI)) ∧ Hid ((M0 ++ twoI (n3 : Int) ++ (ds.take q).flatMap ndI).length = m) ∧ Below w.heap.size w wr) (fun _ i _ => n3 - (intOf i).toNat)
            case atStart => exact ⟨0, m + 2, by omega, by omega, rfl, by simp, Lib.hid (by have := HL2.out; simpa using this), hlo4⟩
            case round =>
              clear hbox4 hlo4
              obtain ⟨q, m, hq, hm, rfl, rfl, HM, hlo⟩ := hrel
              by_cases hql : q < n3
              · obtain ⟨b, o, e2, hbB, hfn, z0, z1, z2⟩ := (HFull.out.read.ds.below' hlo hB).at_ hql
                have hnl : q < ds.length := by rw [HFull.out.read.ds.len]; exact hql
                have HS := Lib.hid (flat_take ndI Nd.zero ds q hnl)
                have hfit := HFit.out.ds (ds.getD q .zero) (by rw [List.getD_eq_getElem?_getD, List.getElem?_eq_getElem hnl]; exact List.getElem_mem hnl)
                subst e2
                obtain ⟨f1, f2, f3, f4, f5⟩ := hfit
                generalize ds.getD q .zero = y at *
                have hql' : (q : Int) < n3 := by omega
                generalize hMM : M0 ++ twoI (n3 : Int) ++ (ds.take q).flatMap ndI = M at *
                have HMM := Lib.hid hMM
                clear hMM hMl
                have hMl : M.length ≤ 30000 := by rw [HM.out]; omega
                have hby : Blk (wr.alloc (.cells #[.int .i64 y.ad, .string y.s, .int .i64 y.k] 79)) wr.heap.size #[.int .i64 y.ad, .string y.s, .int .i64 y.k] 79 := Blk.new _ _ _
                have hlo9 := hlo.alloc hlo.size (.cells #[.int .i64 y.ad, .string y.s, .int .i64 y.k] 79)
                clear hlo
                have hc0 := hby.cell
                have hl0 := hby.lt
                have HW := Lib.hid (show strOfNums M ++ (strOfNums [(y.s.size : Int)] ++ y.s ++ strOfNums (twoI y.k) ++ strOfNums (twoI y.ad)) = strOfNums (M ++ ndI y) from strOf_cat4 _ _ _ _ _)
                have t5 := twoI_len y.k
                have t6 := twoI_len y.ad
                go_wp2_with fail
                generalize wr.alloc (.cells #[.int .i64 y.ad, .string y.s, .int .i64 y.k] 79) = W9 at *
                generalize wr.heap.size = q9 at *
                clear z0 z1 z2
                refine wp_region_walk (fun w' => Below W9.heap.size W9 w') [[], [], [(103, 1)], [(104, 2)], [(105, 3)], [(106, 4)], [(107, 5)], [], [(109, 7)], [(108, 6), (110, 8)], [], [(112, 10)], [(113, 11)], [(111, 9), (114, 12)], [], [(116, 14)], [(117, 15)], [(115, 13), (118, 16)], [(102, 0), (119, 17)]]
                  [(102, 0), (103, 1), (104, 2), (105, 3), (106, 4), (107, 5), (108, 6), (109, 7), (110, 8), (111, 9), (112, 10), (113, 11), (114, 12), (115, 13), (116, 14), (117, 15), (118, 16), (119, 17), (120, 18)] (by kernel_rfl) (by kernel_rfl) (by kernel_rfl) (Below.refl _ _).drew ?_
                apply Flow.det_step
                · go_light
                  intro w1 hC1
                  simp only [Flow.fill, Flow.after, Flow.at_, List.nil_append, List.cons_append, List.getD_cons_zero, List.getD_cons_succ, det, forall_eq, List.setIfInBounds_toArray, List.set_cons_zero, List.set_cons_succ, List.drop, List.length]
                  have hb3 := hC1
                  have hs3 := hb3.size; have hbyy := hby.fr (Fr.of_grow hb3) (fun h => h); have hcx := hbyy.cell; have hlx := hbyy.lt
                  go_wp2
                  exact Flow.post_det hb3 (Grow.refl _) rfl rfl
                apply Flow.det_step
                · go_light
                  intro w1 hC1
                  simp only [Flow.fill, Flow.after, Flow.at_, List.nil_append, List.cons_append, List.getD_cons_zero, List.getD_cons_succ, det, forall_eq, List.setIfInBounds_toArray, List.set_cons_zero, List.set_cons_succ, List.drop, List.length]
                  have hb3 := hC1
                  have hs3 := hb3.size; have hbyy := hby.fr (Fr.of_grow hb3) (fun h => h); have hcx := hbyy.cell; have hlx := hbyy.lt
                  go_wp2
                  exact Flow.post_det hb3 (Grow.refl _) rfl rfl
                apply Flow.det_step
                · go_light
                  intro w1 hC1
                  simp only [Flow.fill, Flow.after, Flow.at_, List.nil_append, List.cons_append, List.getD_cons_zero, List.getD_cons_succ, det, forall_eq, List.setIfInBounds_toArray, List.set_cons_zero, List.set_cons_succ, List.drop, List.length]
                  have hb3 := hC1
                  have hs3 := hb3.size; have hbyy := hby.fr (Fr.of_grow hb3) (fun h => h); have hcx := hbyy.cell; have hlx := hbyy.lt
                  go_wp2
                  exact Flow.post_det hb3 (Grow.refl _) rfl rfl
                apply Flow.det_step
                · go_light
                  intro w1 hC1
                  simp only [Flow.fill, Flow.after, Flow.at_, List.nil_append, List.cons_append, List.getD_cons_zero, List.getD_cons_succ, det, forall_eq, List.setIfInBounds_toArray, List.set_cons_zero, List.set_cons_succ, List.drop, List.length]
                  have hb3 := hC1
                  have hs3 := hb3.size; have hbyy := hby.fr (Fr.of_grow hb3) (fun h => h); have hcx := hbyy.cell; have hlx := hbyy.lt
                  go_wp2
                  exact Flow.post_det hb3 (Grow.refl _) rfl rfl
                apply Flow.det_step
                · go_light
                  intro w1 hC1
                  simp only [Flow.fill, Flow.after, Flow.at_, List.nil_append, List.cons_append, List.getD_cons_zero, List.getD_cons_succ, det, forall_eq, List.setIfInBounds_toArray, List.set_cons_zero, List.set_cons_succ, List.drop, List.length]
                  have hb3 := hC1
                  have hs3 := hb3.size; have hbyy := hby.fr (Fr.of_grow hb3) (fun h => h); have hcx := hbyy.cell; have hlx := hbyy.lt
                  go_wp2
                  exact Flow.post_det hb3 (Grow.refl _) rfl rfl
                refine Flow.st_step (freshSt (fun g => .slice (some ⟨g, 0, none⟩) 1 1) [.int .u8 (y.s.size : Int)]) ?_ ?_
                · go_light
                  intro w1 hC1
                  simp only [Flow.fill, Flow.after, Flow.at_, List.nil_append, List.cons_append, List.getD_cons_zero, List.getD_cons_succ, det, forall_eq, List.setIfInBounds_toArray, List.set_cons_zero, List.set_cons_succ, List.drop, List.length]
                  have hb3 := hC1
                  have hs3 := hb3.size; have hbyy := hby.fr (Fr.of_grow hb3) (fun h => h); have hcx := hbyy.cell; have hlx := hbyy.lt
                  go_wp2
                  exact Flow.post_st (hb3.alloc hs3 _) (Grow.alloc _ _) rfl rfl (fresh_alloc _ _ [.int .u8 (y.s.size : Int)] _ (by rfl))
                apply Flow.det_step
                · go_light
                  intro w1 hC1
                  simp only [Flow.fill, Flow.after, Flow.at_, List.nil_append, List.cons_append, List.getD_cons_zero, List.getD_cons_succ, det, forall_eq, List.setIfInBounds_toArray, List.set_cons_zero, List.set_cons_succ, List.drop, List.length]
                  rintro _ ⟨g5, rfl, hg5, hcs5⟩
                  have hb3 := hC1
                  have hs3 := hb3.size; have hbyy := hby.fr (Fr.of_grow hb3) (fun h => h); have hcx := hbyy.cell; have hlx := hbyy.lt
                  have hr1 : RB w1 (g5 + 1) (some ⟨g5, 0, none⟩) 1 [(y.s.size : Int)] := ⟨⟨rfl, fun _ => ⟨g5, 0, rfl, by omega, fun j u hu => by rw [Nat.zero_add]; exact hcs5 j u hu⟩⟩, Byt.one (by omega)⟩
                  have e1 := hr1.conv (P := Try.prog) 1 35 9 5 Try.underlying35 Try.underlying5 Try.underlying9
                  clear hr1 hcs5
                  go_wp2
                  exact Flow.post_det hb3 (Grow.refl _) rfl rfl
                apply Flow.det_step
                · go_light
                  intro w1 hC1
                  simp only [Flow.fill, Flow.after, Flow.at_, List.nil_append, List.cons_append, List.getD_cons_zero, List.getD_cons_succ, det, forall_eq, List.setIfInBounds_toArray, List.set_cons_zero, List.set_cons_succ, List.drop, List.length]
                  have hb3 := hC1
                  have hs3 := hb3.size; have hbyy := hby.fr (Fr.of_grow hb3) (fun h => h); have hcx := hbyy.cell; have hlx := hbyy.lt
                  go_wp2
                  exact Flow.post_det hb3 (Grow.refl _) rfl rfl
                apply Flow.det_step
                · go_light
                  intro w1 hC1
                  simp only [Flow.fill, Flow.after, Flow.at_, List.nil_append, List.cons_append, List.getD_cons_zero, List.getD_cons_succ, det, forall_eq, List.setIfInBounds_toArray, List.set_cons_zero, List.set_cons_succ, List.drop, List.length]
                  have hb3 := hC1
                  have hs3 := hb3.size; have hbyy := hby.fr (Fr.of_grow hb3) (fun h => h); have hcx := hbyy.cell; have hlx := hbyy.lt
                  go_wp2
                  exact Flow.post_det hb3 (Grow.refl _) rfl rfl
                apply Flow.det_step
                · go_light
                  intro w1 hC1
                  simp only [Flow.fill, Flow.after, Flow.at_, List.nil_append, List.cons_append, List.getD_cons_zero, List.getD_cons_succ, det, forall_eq, List.setIfInBounds_toArray, List.set_cons_zero, List.set_cons_succ, List.drop, List.length]
                  have hb3 := hC1
                  have hs3 := hb3.size; have hbyy := hby.fr (Fr.of_grow hb3) (fun h => h); have hcx := hbyy.cell; have hlx := hbyy.lt
                  go_wp2
                  exact Flow.post_det hb3 (Grow.refl _) rfl rfl
                apply Flow.det_step
                · go_light
                  intro w1 hC1
                  simp only [Flow.fill, Flow.after, Flow.at_, List.nil_append, List.cons_append, List.getD_cons_zero, List.getD_cons_succ, det, forall_eq, List.setIfInBounds_toArray, List.set_cons_zero, List.set_cons_succ, List.drop, List.length]
                  have hb3 := hC1
                  have hs3 := hb3.size; have hbyy := hby.fr (Fr.of_grow hb3) (fun h => h); have hcx := hbyy.cell; have hlx := hbyy.lt
                  go_wp2
                  exact Flow.post_det hb3 (Grow.refl _) rfl rfl
                apply Flow.det_step
                · go_light
                  intro w1 hC1
                  simp only [Flow.fill, Flow.after, Flow.at_, List.nil_append, List.cons_append, List.getD_cons_zero, List.getD_cons_succ, det, forall_eq, List.setIfInBounds_toArray, List.set_cons_zero, List.set_cons_succ, List.drop, List.length]
                  have hb3 := hC1
                  have hs3 := hb3.size; have hbyy := hby.fr (Fr.of_grow hb3) (fun h => h); have hcx := hbyy.cell; have hlx := hbyy.lt
                  go_wp2
                  exact Flow.post_det hb3 (Grow.refl _) rfl rfl
                apply Flow.det_step
                · go_light
                  intro w1 hC1
                  simp only [Flow.fill, Flow.after, Flow.at_, List.nil_append, List.cons_append, List.getD_cons_zero, List.getD_cons_succ, det, forall_eq, List.setIfInBounds_toArray, List.set_cons_zero, List.set_cons_succ, List.drop, List.length]
                  have hb3 := hC1
                  have hs3 := hb3.size; have hbyy := hby.fr (Fr.of_grow hb3) (fun h => h); have hcx := hbyy.cell; have hlx := hbyy.lt
                  go_wp2_with (go_at_call 31; refine (two_any (y.k) _ (by omega)).mono ?_; rintro e w5 ⟨rfl, hb5⟩)
                  exact Flow.post_det (hb3.trans (hb5.mono hs3)) hb5 rfl rfl
                apply Flow.det_step
                · go_light
                  intro w1 hC1
                  simp only [Flow.fill, Flow.after, Flow.at_, List.nil_append, List.cons_append, List.getD_cons_zero, List.getD_cons_succ, det, forall_eq, List.setIfInBounds_toArray, List.set_cons_zero, List.set_cons_succ, List.drop, List.length]
                  have hb3 := hC1
                  have hs3 := hb3.size; have hbyy := hby.fr (Fr.of_grow hb3) (fun h => h); have hcx := hbyy.cell; have hlx := hbyy.lt
                  go_wp2
                  exact Flow.post_det hb3 (Grow.refl _) rfl rfl
                apply Flow.det_step
                · go_light
                  intro w1 hC1
                  simp only [Flow.fill, Flow.after, Flow.at_, List.nil_append, List.cons_append, List.getD_cons_zero, List.getD_cons_succ, det, forall_eq, List.setIfInBounds_toArray, List.set_cons_zero, List.set_cons_succ, List.drop, List.length]
                  have hb3 := hC1
                  have hs3 := hb3.size; have hbyy := hby.fr (Fr.of_grow hb3) (fun h => h); have hcx := hbyy.cell; have hlx := hbyy.lt
                  go_wp2
                  exact Flow.post_det hb3 (Grow.refl _) rfl rfl
                apply Flow.det_step
                · go_light
                  intro w1 hC1
                  simp only [Flow.fill, Flow.after, Flow.at_, List.nil_append, List.cons_append, List.getD_cons_zero, List.getD_cons_succ, det, forall_eq, List.setIfInBounds_toArray, List.set_cons_zero, List.set_cons_succ, List.drop, List.length]
                  have hb3 := hC1
                  have hs3 := hb3.size; have hbyy := hby.fr (Fr.of_grow hb3) (fun h => h); have hcx := hbyy.cell; have hlx := hbyy.lt
                  go_wp2
                  exact Flow.post_det hb3 (Grow.refl _) rfl rfl
                apply Flow.det_step
                · go_light
                  intro w1 hC1
                  simp only [Flow.fill, Flow.after, Flow.at_, List.nil_append, List.cons_append, List.getD_cons_zero, List.getD_cons_succ, det, forall_eq, List.setIfInBounds_toArray, List.set_cons_zero, List.set_cons_succ, List.drop, List.length]
                  have hb3 := hC1
                  have hs3 := hb3.size; have hbyy := hby.fr (Fr.of_grow hb3) (fun h => h); have hcx := hbyy.cell; have hlx := hbyy.lt
                  go_wp2_with (go_at_call 31; refine (two_any (y.ad) _ (by omega)).mono ?_; rintro e w5 ⟨rfl, hb5⟩)
                  exact Flow.post_det (hb3.trans (hb5.mono hs3)) hb5 rfl rfl
                apply Flow.det_step
                · go_light
                  intro w1 hC1
                  simp only [Flow.fill, Flow.after, Flow.at_, List.nil_append, List.cons_append, List.getD_cons_zero, List.getD_cons_succ, det, forall_eq, List.setIfInBounds_toArray, List.set_cons_zero, List.set_cons_succ, List.drop, List.length]
                  have hb3 := hC1
                  have hs3 := hb3.size; have hbyy := hby.fr (Fr.of_grow hb3) (fun h => h); have hcx := hbyy.cell; have hlx := hbyy.lt
                  go_wp2
                  exact Flow.post_det hb3 (Grow.refl _) rfl rfl
                apply Flow.det_step
                · go_light
                  intro w1 hC1
                  simp only [Flow.fill, Flow.after, Flow.at_, List.nil_append, List.cons_append, List.getD_cons_zero, List.getD_cons_succ, det, forall_eq, List.setIfInBounds_toArray, List.set_cons_zero, List.set_cons_succ, List.drop, List.length]
                  have hb3 := hC1
                  have hs3 := hb3.size; have hbyy := hby.fr (Fr.of_grow hb3) (fun h => h); have hcx := hbyy.cell; have hlx := hbyy.lt
                  go_wp2
                  exact Flow.post_det hb3 (Grow.refl _) rfl rfl
                intro w1 hC1
                simp only [Flow.fill, Flow.after, Flow.at_, List.nil_append, List.cons_append, List.getD_cons_zero, List.getD_cons_succ, det, forall_eq, List.setIfInBounds_toArray, List.set_cons_zero, List.set_cons_succ, List.drop, List.length]
                rintro _ ⟨g5, rfl, hg5, hcs5⟩
                have hb3 := hC1
                have hs3 := hb3.size
                have HLO := Lib.hid (hlo9.trans (hb3.mono hlo9.size))
                clear hlo9 hb3
                go_wp2
                go_roundw
                case rel => exact ⟨q + 1, m + (1 + y.s.size + 2 + 2), by omega, by omega, by go_num, by rw [HS.out, ← List.append_assoc, HMM.out, ← HW.out], Lib.hid (by rw [HS.out, ← List.append_assoc, HMM.out, List.length_append, HM.out, ndI_len]), HLO.out⟩
                case measure => simp [intOf]; omega
              · obtain rfl : q = n3 := by omega
                rw [List.take_of_length_le (by rw [HFull.out.read.ds.len]; exact Nat.le_refl _)] at *
                have HO : Hid (objI ws bs k n1 j q ns ds = M0 ++ twoI (q : Int) ++ ds.flatMap ndI) := Lib.hid (by unfold objI; rw [HMM0.out])
                have hbt := objI_byt hws HFull.out.rb.2 hn0 hn1 hn2 hn3 HFit.out.ns HFit.out.ds
                rw [HO.out] at hbt
                generalize M0 ++ twoI (q : Int) ++ ds.flatMap ndI = E9 at *
                have hMl9 : E9.length ≤ 30000 := by rw [HM.out]; omega
                have hrr := Lib.hid (RB.bytes wr 5 E9 hbt)
                have hbb := Lib.hid (below_bytes wr 5 (strOfNums E9))
                clear hbt
                have hsb := fun W s => Lib.run_convert_string_bytes (P := Try.prog) W 9 35 5 s Try.underlying9 Try.underlying35 Try.underlying5
                have hfin : Hid (∀ c, ObjPost w ⟨A0, k, c0, A1, n1, c1, A2, j, c2, A3, q, c3, ns, ds⟩ ws bs (.returned (.tuple #[.slice (some ⟨wr.heap.size, 0, none⟩) E9.length c, .int .i64 0])) (Lib.bytesWorld wr 5 (strOfNums E9))) := Lib.hid fun c =>
                  ⟨_, _, c, by rw [HE.out], by rw [if_pos HE.out, HO.out]; exact hrr.out.more (by rw [Lib.bytesWorld_size]; exact Nat.le_refl _), hlo.trans (hbb.out.mono hlo.size)⟩
                go_wp2
                go_ret2
                exact hfin.out _
  · have hz' : (E != 0) = true := by simpa using hz
    go_wp2
    refine bodyPost_ret (v := .tuple #[.slice none 0 0, .int .i64 E]) (by simp [results, Try.results14, go_sem]) rfl ?_
    exact ⟨none, 0, 0, by rw [HE.out], by rw [HE.out, if_neg hz]; exact ⟨⟨rfl, fun h => absurd h (by omega)⟩, fun y hy => by simp at hy⟩, hbw1⟩
end Go.Proofs.Ytgmpcdonmlhohaa
