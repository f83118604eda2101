/- words.Expand f4. -/
import Derived.Test.YtopkcanfiefmaaaDoorExC
namespace Go.Proofs.YtopkcanfiefmaaaDoor
open Go.RowKit
set_option maxHeartbeats 400000
set_option linter.unusedVariables false
set_option linter.unusedSimpArgs false
theorem bytes_none {O : ByteArray} (h : O.size = 0) : O.toList.isEmpty = true := by
  have h' : O.data.toList = [] := List.eq_nil_of_length_eq_zero (by simpa using h)
  rw [Lib.toList_data, h']; rfl
theorem bytes_some {O : ByteArray} (h : O.size ≠ 0) : O.toList.isEmpty = false := by
  rw [Lib.toList_data]
  cases h' : O.data.toList with
  | nil => exact absurd (by have := congrArg List.length h'; simpa using this) h
  | cons a l => rfl
theorem varsErr_zero : ∀ {l : List Vr}, varsErr l = 0 → ∀ v ∈ l, v.value.size ≤ 60
  | [], _, v, hv => by cases hv
  | x :: r, h, v, hv => by
    unfold varsErr at h
    split at h
    · cases h
    · split at h
      · cases h
      · rcases List.mem_cons.1 hv with rfl | hv
        · omega
        · exact varsErr_zero h v hv
theorem part_le {T : ByteArray} {vars : List Vr} (hT : T.size ≤ 60) (hv : ∀ v ∈ vars, v.value.size ≤ 60) (f : Fs) (p : Pt) (hp : p.text.size ≤ 1048576) :
    (f.part T vars p).now.size ≤ f.now.size + 1048576 ∧ (f.part T vars p).out.length ≤ f.out.length + 1048576 := by
  have hval := valS_le (name := p.text) hT hv
  unfold Fs.part
  split
  · split
    · refine ⟨?_, ?_⟩
      · show (f.now ++ _).size ≤ _; rw [ByteArray.size_append]; omega
      · show f.out.length ≤ _; omega
    · have := loose_le (valS T vars p.text).data.toList f
      have hl : (valS T vars p.text).data.toList.length = (valS T vars p.text).size := by simp
      omega
  · split
    · refine ⟨?_, ?_⟩
      · show (f.now ++ _).size ≤ _; rw [ByteArray.size_append]; omega
      · show f.out.length ≤ _; omega
    · omega
theorem take_snoc {T : ByteArray} {vars : List Vr} {ps : List Pt} {j : Nat} (h : j < ps.length) : (ps.take (j + 1)).foldl (Fs.part T vars) Fs.init = ((ps.take j).foldl (Fs.part T vars) Fs.init).part T vars (ps.getD j Pt.zero) := by
  have hgj : ps.getD j Pt.zero = ps[j] := by simp [List.getD, List.getElem?_eq_getElem h]
  rw [List.take_succ_eq_append_getElem h, List.foldl_append, hgj]; rfl
/-- What comes in. -/
structure In (w : World) (B : Nat) (op : ByteArray) (A : Option Addr) (n : Nat) (ps : List Pt) (VA : Option Addr) (vn : Nat) (vars : List Vr) : Prop where
  parts : RS Pt.cells 3 w B A n ps
  fewp : n ≤ 1048576
  smallp : ∀ p ∈ ps, p.text.size ≤ 1048576
  vs : RS Vr.cells 2 w B VA vn vars
  fewv : vn ≤ 1048576
  smallv : ∀ v ∈ vars, v.name.size ≤ 1048576
  opn : op.size ≤ 1048576
theorem In.below {w w' : World} {B B' : Nat} {op : ByteArray} {A : Option Addr} {n : Nat} {ps : List Pt} {VA : Option Addr} {vn : Nat} {vars : List Vr} (h : In w B op A n ps VA vn vars) (hb : Below B' w w') (hB : B ≤ B') : In w' B op A n ps VA vn vars :=
  ⟨h.parts.below' hb hB, h.fewp, h.smallp, h.vs.below' hb hB, h.fewv, h.smallv, h.opn⟩
/-- Texts and an error. -/
def XPost (x : List ByteArray × Int) (w : World) (e : Ending) (w' : World) : Prop := ∃ A n c, e = .returned (.tuple #[.slice A n c, .int .i64 x.2]) ∧ RS strC 1 w' w'.heap.size A n x.1 ∧ n ≤ 9223372036854775807 ∧ Below w.heap.size w w'
theorem XPost.bad {w w' : World} {k : Int} (h : Below w.heap.size w w') : XPost ([], k) w (.returned (.tuple #[.slice none 0 0, .int .i64 k])) w' :=
  ⟨none, 0, 0, rfl, ⟨Reads.none_, rfl⟩, by decide, h⟩
theorem expand_op {T op : ByteArray} {ps : List Pt} {vars : List Vr} (h : op.size ≠ 0) : expandS T op ps vars = ([], 1) := by unfold expandS; rw [if_pos h]
theorem expand_var {T op : ByteArray} {ps : List Pt} {vars : List Vr} (h : op.size = 0) (h1 : varsErr vars ≠ 0) : expandS T op ps vars = ([], varsErr vars) := by unfold expandS; rw [if_neg (fun h' => h' h), if_pos h1]
theorem expand_many {T op : ByteArray} {ps : List Pt} {vars : List Vr} (h : op.size = 0) (h1 : varsErr vars = 0) (h2 : 40 < ((ps.foldl (Fs.part T vars) Fs.init).fin).out.length) : expandS T op ps vars = ([], 2) := by
  unfold expandS; rw [if_neg (fun h' => h' h), if_neg (fun h' => h' h1), if_pos h2]
theorem expand_ok {T op : ByteArray} {ps : List Pt} {vars : List Vr} (h : op.size = 0) (h1 : varsErr vars = 0) (h2 : ¬ 40 < ((ps.foldl (Fs.part T vars) Fs.init).fin).out.length) : expandS T op ps vars = (((ps.foldl (Fs.part T vars) Fs.init).fin).out, 0) := by
  unfold expandS; rw [if_neg (fun h' => h' h), if_neg (fun h' => h' h1), if_neg h2]
theorem drop_vr {vars : List Vr} {j : Nat} (hjl : j < vars.length) : vars.drop j = vars.getD j Vr.zero :: vars.drop (j + 1) := by
  have hgj : vars.getD j Vr.zero = vars[j] := by simp [List.getD, List.getElem?_eq_getElem hjl]
  rw [List.drop_eq_getElem_cons hjl, hgj]
theorem varsErr_form {v : Vr} {r : List Vr} (h : nameW (nums v.name) = false) : varsErr (v :: r) = 3 := by unfold varsErr; rw [if_pos h]
theorem varsErr_large {v : Vr} {r : List Vr} (h : nameW (nums v.name) = true) (h2 : 60 < v.value.size) : varsErr (v :: r) = 2 := by unfold varsErr; rw [if_neg (by simp [h]), if_pos h2]
theorem varsErr_next {v : Vr} {r : List Vr} (h : nameW (nums v.name) = true) (h2 : ¬ 60 < v.value.size) : varsErr (v :: r) = varsErr r := by rw [varsErr, if_neg (by simp [h]), if_neg h2]
set_option maxHeartbeats 8000000 in
set_option maxRecDepth 100000 in
theorem expand_any (op : ByteArray) (A : Option Addr) (n c : Nat) (kk : Int) (ps : List Pt) (VA : Option Addr) (vn vc : Nat) (vars : List Vr) (k : Int) (w : World) (B : Nat) (h : In w B op A n ps VA vn vars) (hB : B ≤ w.heap.size) (hv : VarOk w) (h0 : -9223372036854775808 ≤ k) (h1 : k ≤ 9223372036854775807) :
    Calls Tryd.prog 7 #[.agg #[.string op, .slice A n c, .int .i64 kk], .slice VA vn vc, .int .i64 k] w (XPost (expandS (itoaS k) op ps vars) w) := by
  have hT := itoaS_le k h0 h1
  have hx0 := Blk.new w #[.string op, .slice A n c, .int .i64 kk] 37
  have hb0 : Below w.heap.size w (w.alloc (.cells #[.string op, .slice A n c, .int .i64 kk] 37)) := (Below.refl _ _).alloc (Nat.le_refl _) _
  obtain ⟨W, hW⟩ : ∃ W, W = w.alloc (.cells #[.string op, .slice A n c, .int .i64 kk] 37) := ⟨_, rfl⟩
  rw [← hW] at hx0 hb0
  have hc0 := hx0.cell
  have hlt0 := hx0.lt
  have H0 := Lib.hid (h.below hb0 hB)
  have hl1 := hv.lt
  have HVO := Lib.hid (hv.below hb0 hl1)
  have hsW : W.heap.size = w.heap.size + 1 := by rw [hW]; simp
  obtain ⟨g0, hg0⟩ : ∃ g, w.heap.size = g := ⟨_, rfl⟩
  rw [hg0] at hb0 hx0 hc0 hlt0 hsW hB hl1
  have HB0 := Lib.hid hb0
  have HG0 := Lib.hid hg0
  have HW := Lib.hid hW
  clear hW hb0 hx0 h hv
  have HN := Lib.hid (fun (s : ByteArray) (hs : s.size ≤ 9223372036854775807) (W : World) => name_any s W hs)
  have HVAL := Lib.hid (fun (nm : ByteArray) (W' : World) (hb : Below (g0 + 1) W W') => value_any nm VA vn vc vars k W' B (H0.out.vs.below' hb (by omega)) (by have := hb.size; omega) (HVO.out.below hb (by omega)) h0 h1 H0.out.fewv)
  obtain ⟨T, hTT⟩ : ∃ T, itoaS k = T := ⟨_, rfl⟩
  rw [hTT] at HVAL hT ⊢
  clear hTT
  have hfv := H0.out.fewv
  have hfp := H0.out.fewp
  have hvl := H0.out.vs.2
  have hpl := H0.out.parts.2
  by_cases ho : op.size = 0
  rotate_left
  · have e := Lib.hid (expand_op (T := T) (ps := ps) (vars := vars) ho)
    have hne := bytes_some ho
    go_enter Tryd.func7, Tryd.ntmps7
    go_wp2_with fail
    rw [← HW.out]
    clear HW
    go_wp2
    refine bodyPost_ret (v := .tuple #[.slice none 0 0, .int .i64 1]) (by simp [results, Tryd.results7, go_sem]) rfl ?_
    rw [e.out]
    exact XPost.bad (by rw [HG0.out]; exact HB0.out)
  have hne := bytes_none ho
  go_enter Tryd.func7, Tryd.ntmps7
  go_wp2_with fail
  rw [← HW.out]
  clear HW
  go_wp2_with fail
  go_loopw [18] (fun i wr => ∃ j : Nat, j ≤ vn ∧ i = .int .i64 j ∧ Hid (varsErr vars = varsErr (vars.drop j)) ∧ Below (g0 + 1) W wr) (fun i _ => vn - (intOf i).toNat)
  case atStart => exact ⟨0, Nat.zero_le _, rfl, Lib.hid rfl, Below.refl _ _⟩
  case round =>
    obtain ⟨j, hj, rfl, hd, hbw⟩ := hrel
    have hsw := hbw.size
    by_cases hjn : j < vn
    · obtain ⟨bb, o, rfl, hbb, hm, hcs⟩ := RS.at_ (cl := Vr.cells) (s := 2) Vr.len Vr.zero H0.out.vs hjn
      have x0 := (hbw.cell (p := ⟨bb, o + j * 2 + 0, none⟩) (show bb < g0 + 1 by omega)).trans (hcs 0 _ rfl)
      have x1 := (hbw.cell (p := ⟨bb, o + j * 2 + 1, none⟩) (show bb < g0 + 1 by omega)).trans (hcs 1 _ rfl)
      have hsm := H0.out.smallv _ hm
      have HD := Lib.hid hd.out
      rw [drop_vr (show j < vars.length by omega)] at HD
      clear hcs hm hd HVAL
      generalize vars.getD j Vr.zero = v at *
      obtain ⟨vn', vv⟩ := v
      dsimp only at x0 x1 hsm
      rw [Nat.add_zero] at x0
      have hkn : (j : Int) < vn := by omega
      have hk0 : (0 : Int) ≤ j := by omega
      have hB5 : Below wr.heap.size wr (wr.alloc (.cells #[.string vn', .string vv] 43)) := (Below.refl _ _).alloc (Nat.le_refl _) _
      have hB6 := Lib.hid (hbw.trans (hB5.mono (by omega)))
      have HNM := Lib.hid (HN.out vn' (by omega))
      unfold Same at HNM
      cases hnm : nameW (nums vn') with
      | false =>
        have HE := Lib.hid ((HD.out.trans (varsErr_form hnm)))
        rw [hnm] at HNM
        clear hnm
        have e := Lib.hid (expand_var (T := T) (ps := ps) ho (show varsErr vars ≠ 0 by rw [HE.out]; decide))
        go_wp2_with fail
        refine (HNM.out _).mono ?_
        rintro e w6 ⟨rfl, rfl⟩
        go_wp2
        refine bodyPost_ret (v := .tuple #[.slice none 0 0, .int .i64 3]) (by simp [results, Tryd.results7, go_sem]) rfl ?_
        rw [e.out, HE.out]
        exact XPost.bad (by rw [HG0.out]; exact HB0.out.trans (hB6.out.mono (by omega)))
      | true =>
        rw [hnm] at HNM
        by_cases hlg : 60 < vv.size
        · have HE := Lib.hid ((HD.out.trans (varsErr_large hnm hlg)))
          clear hnm
          have e := Lib.hid (expand_var (T := T) (ps := ps) ho (show varsErr vars ≠ 0 by rw [HE.out]; decide))
          have hlg' : (60 : Int) < vv.size := by omega
          go_wp2_with fail
          refine (HNM.out _).mono ?_
          rintro e w6 ⟨rfl, rfl⟩
          go_wp2
          refine bodyPost_ret (v := .tuple #[.slice none 0 0, .int .i64 2]) (by simp [results, Tryd.results7, go_sem]) rfl ?_
          rw [e.out, HE.out]
          exact XPost.bad (by rw [HG0.out]; exact HB0.out.trans (hB6.out.mono (by omega)))
        · have HE := Lib.hid ((HD.out.trans (varsErr_next hnm hlg)))
          clear hnm
          have hlg' : ¬ (60 : Int) < vv.size := by omega
          go_wp2_with fail
          refine (HNM.out _).mono ?_
          rintro e w6 ⟨rfl, rfl⟩
          go_wp2
          go_roundw
          case rel => exact ⟨j + 1, by omega, by go_num, HE, hB6.out⟩
          case measure => simp [intOf]; omega
    obtain rfl : j = vn := by omega
    have hve : varsErr vars = 0 := hd.out.trans (by rw [List.drop_of_length_le (by omega)]; rfl)
    have hvs := varsErr_zero hve
    have HVE := Lib.hid hve
    clear hve hd HN
    have hc1 := (hbw.cell (p := ⟨g0, 1, none⟩) (show g0 < g0 + 1 by omega)).trans ((hc0 1).trans (show _ = some (.slice A n c) from rfl))
    have hlg : g0 < wr.heap.size := by omega
    obtain ⟨W2, hW2⟩ : ∃ W2, W2 = wr.alloc (.cells #[.slice none 0 0, .string ⟨#[]⟩, .bool false] 47) := ⟨_, rfl⟩
    have hx2 := Blk.new wr #[.slice none 0 0, .string ⟨#[]⟩, .bool false] 47
    rw [← hW2] at hx2
    obtain ⟨g, hg⟩ : ∃ g, wr.heap.size = g := ⟨_, rfl⟩
    rw [hg] at hx2 hlg hsw
    have hs2 : W2.heap.size = g + 1 := by rw [hW2, ← hg]; simp
    have hb2 : Below (g0 + 1) W W2 := by rw [hW2]; exact hbw.alloc (by omega) _
    have hfd : FdAt W2 (g + 1) g Fs.init := ⟨none, 0, 0, hx2, Row.nil _ _ _ _, rfl, by omega, by omega⟩
    have hcc : W2.cell? ⟨g0, 1, none⟩ = some (.slice A n c) := by rw [hW2, World.cell?_alloc_lt wr _ ⟨g0, 1, none⟩ (by rw [hg]; exact hlg)]; exact hc1
    have HFD := Lib.hid hfd
    have HW2 := Lib.hid hW2
    have HG := Lib.hid hg
    clear hW2 hx2 hfd hc0 hbw hj hjn
    go_wp2_with fail
    rw [← HW2.out]
    clear HW2 hc1 hg HG
    obtain ⟨SB, hSB⟩ : ∃ S, S = (1048576 : Nat) := ⟨_, rfl⟩
    go_loopw [36] (fun i wr => ∃ (j : Nat) (f : Fs), j ≤ n ∧ i = .int .i64 j ∧ Hid (f = (ps.take j).foldl (Fs.part T vars) Fs.init) ∧ f.now.size ≤ j * 1048576 ∧ f.out.length ≤ j * 1048576 ∧ Hid (FdAt wr (g + 1) g f) ∧ Hid (FrG (g + 1) g W2 wr)) (fun i _ => n - (intOf i).toNat)
    case atStart => exact ⟨0, Fs.init, Nat.zero_le _, rfl, Lib.hid rfl, Nat.zero_le _, Nat.zero_le _, HFD, Lib.hid (FrG.refl _ _ _)⟩
    case round =>
      obtain ⟨j, f, hj, rfl, hf, hn1, hn2, hfa, hfr⟩ := hrel
      have hbg : Below g W2 wr := hfr.out.below (by omega) (by omega)
      have hsw2 := hbg.size
      have HBW : Hid (Below (g0 + 1) W wr) := Lib.hid (hb2.trans (hbg.mono (by omega)))
      by_cases hjn : j < n
      rotate_left
      · obtain rfl : j = n := by omega
        have hF := Lib.hid (hf.out.trans (by rw [List.take_of_length_le (by omega)]))
        have HE := Lib.hid (end_any (g + 1) g f wr hfa.out (by omega))
        go_wp2_with fail
        refine HE.out.mono ?_
        rintro e w6 ⟨rfl, hfa6, hfr6⟩
        have HR6 := Lib.hid (hfr.out.trans hfr6)
        obtain ⟨A6, n6, c6, hst⟩ := hfa6
        have k0 := (hst.blk.cell 0).trans (show _ = some (.slice A6 n6 c6) from rfl)
        have hl6 := hst.blk.lt
        have HST := Lib.hid hst
        have hlen : f.fin.out.length = n6 := hst.len
        have HB6 : Hid (Below w.heap.size w w6) := Lib.hid (by rw [HG0.out]; exact HB0.out.trans ((hb2.trans ((HR6.out.below (B := g) (by omega) (by omega)).mono (by omega))).mono (by omega)))
        clear hst hfr6
        by_cases hmany : 40 < n6
        · have e := Lib.hid (expand_many (T := T) ho HVE.out (by rw [← hF.out, hlen]; exact hmany))
          have hm' : (40 : Int) < n6 := by omega
          go_wp2
          refine bodyPost_ret (v := .tuple #[.slice none 0 0, .int .i64 2]) (by simp [results, Tryd.results7, go_sem]) rfl ?_
          rw [e.out]
          exact XPost.bad HB6.out
        · have e := Lib.hid (expand_ok (T := T) ho HVE.out (by rw [← hF.out, hlen]; exact hmany))
          rw [← hF.out] at e
          have hm' : ¬ (40 : Int) < n6 := by omega
          have HC := Lib.hid (clone_any A6 n6 c6 f.fin.out w6 (g + 1) HST.out.row hlen (by omega) HST.out.base)
          go_wp2_with fail
          refine HC.out.mono ?_
          rintro e9 w9 ⟨A9, n9, c9, rfl, hr9, hb9⟩
          have hn9 : n9 = n6 := hr9.2.symm.trans hlen
          subst hn9
          have HX := Lib.hid (show XPost (f.fin.out, 0) w _ _ from ⟨A9, n9, c9, rfl, hr9, by omega, HB6.out.trans (hb9.mono HB6.out.size)⟩)
          clear hr9 hb9
          go_wp2
          refine bodyPost_ret (v := .tuple #[.slice A9 n9 c9, .int .i64 0]) (by simp [results, Tryd.results7, go_sem]) rfl ?_
          rw [e.out]
          exact HX.out
      obtain ⟨bb, o, rfl, hbb, hm, hcs⟩ := RS.at_ (cl := Pt.cells) (s := 3) (fun _ => rfl) Pt.zero H0.out.parts hjn
      have x0 := (HBW.out.cell (p := ⟨bb, o + j * 3 + 0, none⟩) (show bb < g0 + 1 by omega)).trans (hcs 0 _ rfl)
      have x1 := (HBW.out.cell (p := ⟨bb, o + j * 3 + 1, none⟩) (show bb < g0 + 1 by omega)).trans (hcs 1 _ rfl)
      have x2 := (HBW.out.cell (p := ⟨bb, o + j * 3 + 2, none⟩) (show bb < g0 + 1 by omega)).trans (hcs 2 _ rfl)
      have hpt := H0.out.smallp _ hm
      have hnx := take_snoc (T := T) (vars := vars) (ps := ps) (j := j) (by omega)
      rw [← hf.out] at hnx
      have hple := part_le hT hvs f _ hpt
      have hvle := valS_le (name := (ps.getD j Pt.zero).text) hT hvs
      clear hcs hm hf
      generalize ps.getD j Pt.zero = p at *
      have HNX := Lib.hid hnx
      clear hnx
      obtain ⟨pt, pv, pq⟩ := p
      dsimp only at x0 x1 x2 hpt hvle
      rw [Nat.add_zero] at x0
      have hkn : (j : Int) < n := by omega
      have hk0 : (0 : Int) ≤ j := by omega
      have hB5 : Below wr.heap.size wr (wr.alloc (.cells #[.string pt, .bool pv, .bool pq] 49)) := (Below.refl _ _).alloc (Nat.le_refl _) _
      have HB5 := Lib.hid hB5
      have HV9 := Lib.hid (HVAL.out pt (wr.alloc (.cells #[.string pt, .bool pv, .bool pq] 49)) (HBW.out.alloc (by omega) _))
      have HV9' := HV9
      unfold SaysB at HV9
      have HFW : Hid (FdAt (wr.alloc (.cells #[.string pt, .bool pv, .bool pq] 49)) (g + 1) g f) := Lib.hid (hfa.out.below hB5)
      have HRW : Hid (FrG (g + 1) g W2 (wr.alloc (.cells #[.string pt, .bool pv, .bool pq] 49))) := Lib.hid (hfr.out.trans (FrG.of_below hB5 (by omega)))
      have hs5 : (wr.alloc (.cells #[.string pt, .bool pv, .bool pq] 49)).heap.size = wr.heap.size + 1 := by simp
      clear hB5 hbg
      cases pv with
      | true =>
        have hpp : f.part T vars ⟨pt, true, pq⟩ = if pq = true then f.add (valS T vars pt) else f.loose (valS T vars pt).data.toList := by unfold Fs.part; rfl
        generalize valS T vars pt = V at *
        cases pq with
        | true =>
          have hpp' : f.part T vars ⟨pt, true, true⟩ = f.add V := hpp
          rw [hpp'] at HNX hple
          clear hpp hpp'
          go_wp2_with fail
          refine HV9.out.mono ?_
          rintro e w6 ⟨rfl, hb6⟩
          have HE := Lib.hid (add_any (g + 1) g f V w6 (HFW.out.below hb6) (by omega))
          have HR := Lib.hid (HRW.out.trans (FrG.of_below hb6 (by omega)))
          clear hb6
          go_wp2_with fail
          refine HE.out.mono ?_
          rintro e w7 ⟨rfl, hfa7, hfr7⟩
          have HA := Lib.hid hfa7
          have HR7 := Lib.hid (HR.out.trans hfr7)
          clear hfa7 hfr7
          go_wp2
          go_roundw
          case rel => exact ⟨j + 1, _, by omega, by go_num, Lib.hid HNX.out.symm, by omega, by omega, HA, HR7⟩
          case measure => simp [intOf]; omega
        | false =>
          have hpp' : f.part T vars ⟨pt, true, false⟩ = f.loose V.data.toList := hpp
          rw [hpp'] at HNX hple
          clear hpp hpp'
          go_wp2_with fail
          refine HV9.out.mono ?_
          rintro e w6 ⟨rfl, hb6⟩
          have HE := Lib.hid (loose_any (g + 1) g f V w6 (HFW.out.below hb6) hvle (by omega) (by omega))
          have HR := Lib.hid (HRW.out.trans (FrG.of_below hb6 (by omega)))
          clear hb6
          go_wp2_with fail
          refine HE.out.mono ?_
          rintro e w7 ⟨rfl, hfa7, hfr7⟩
          have HA := Lib.hid hfa7
          have HR7 := Lib.hid (HR.out.trans hfr7)
          clear hfa7 hfr7
          go_wp2
          go_roundw
          case rel => exact ⟨j + 1, _, by omega, by go_num, Lib.hid HNX.out.symm, by omega, by omega, HA, HR7⟩
          case measure => simp [intOf]; omega
      | false =>
        by_cases hadd : pq = true ∨ pt.size ≠ 0
        · have hpp' : f.part T vars ⟨pt, false, pq⟩ = f.add pt := by unfold Fs.part; rw [if_neg (by simp), if_pos hadd]
          rw [hpp'] at HNX hple
          clear hpp'
          have HE := Lib.hid (add_any (g + 1) g f pt _ HFW.out (by omega))
          cases pq with
          | true =>
            clear hadd
            go_wp2_with fail
            refine HE.out.mono ?_
            rintro e w7 ⟨rfl, hfa7, hfr7⟩
            have HA := Lib.hid hfa7
            have HR7 := Lib.hid (HRW.out.trans hfr7)
            clear hfa7 hfr7
            go_wp2
            go_roundw
            case rel => exact ⟨j + 1, _, by omega, by go_num, Lib.hid HNX.out.symm, by omega, by omega, HA, HR7⟩
            case measure => simp [intOf]; omega
          | false =>
            have hne2 := bytes_some (O := pt) (by simpa using hadd)
            clear hadd
            go_wp2_with fail
            refine HE.out.mono ?_
            rintro e w7 ⟨rfl, hfa7, hfr7⟩
            have HA := Lib.hid hfa7
            have HR7 := Lib.hid (HRW.out.trans hfr7)
            clear hfa7 hfr7
            go_wp2
            go_roundw
            case rel => exact ⟨j + 1, _, by omega, by go_num, Lib.hid HNX.out.symm, by omega, by omega, HA, HR7⟩
            case measure => simp [intOf]; omega
        · have hpp' : f.part T vars ⟨pt, false, pq⟩ = f := by unfold Fs.part; rw [if_neg (by simp), if_neg hadd]
          rw [hpp'] at HNX hple
          clear hpp'
          obtain rfl : pq = false := by cases pq with | true => exact absurd (.inl rfl) hadd | false => rfl
          have hne2 := bytes_none (O := pt) (by
            rcases Nat.eq_zero_or_pos pt.size with h | h
            · exact h
            · exact absurd (.inr (by omega)) hadd)
          have q1 : Hid (f.now.size ≤ (j + 1) * 1048576) := Lib.hid (Nat.le_trans hn1 (Nat.mul_le_mul_right _ (Nat.le_succ j)))
          have q2 : Hid (f.out.length ≤ (j + 1) * 1048576) := Lib.hid (Nat.le_trans hn2 (Nat.mul_le_mul_right _ (Nat.le_succ j)))
          have HNY := Lib.hid HNX.out.symm
          clear hadd hple
          go_wp2
          go_roundw
          case rel => exact ⟨j + 1, f, by omega, by go_num, HNY, q1.out, q2.out, HFW, HRW⟩
          case measure => simp [intOf]; omega
end Go.Proofs.YtopkcanfiefmaaaDoor
