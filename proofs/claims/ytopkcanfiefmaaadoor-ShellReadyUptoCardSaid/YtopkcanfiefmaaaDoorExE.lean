/- ringref4.WordFields f5 (printed by mkExE.py). -/
import Derived.Test.YtopkcanfiefmaaaDoorExD
namespace Go.Proofs.YtopkcanfiefmaaaDoor
open Go.RowKit
set_option maxHeartbeats 400000
set_option linter.unusedVariables false
set_option linter.unusedSimpArgs false
theorem reads_cells (w : World) (cs : List Value) (t : TypeId) {size m : Nat} (h : cs.length = m * size) : Reads (w.alloc (.cells cs.toArray t)) (w.heap.size + 1) size (some ⟨w.heap.size, 0, none⟩) m cs :=
  ⟨h, fun _ => ⟨w.heap.size, 0, rfl, by omega, fun j u hu => by
    rw [Nat.zero_add, (Blk.new w cs.toArray t).cell]; simpa using hu⟩⟩
theorem infoPc : (Tryd.prog.info? 56).map (fun i => (i.zero, i.size, i.bytes)) = some (some (.agg #[.string ⟨#[]⟩, .bool false]), 2, 24) := by kernel_rfl
theorem pc_oneCell (p : Pc) : ∀ u ∈ p.cells, u.oneCell' = true := by
  intro u hu
  simp [Pc.cells] at hu
  rcases hu with rfl | rfl <;> rfl
theorem Pc.len (p : Pc) : p.cells.length = 2 := rfl
/-- The pieces in memory of the call's own. -/
structure PcSt (W w : World) (A : Option Addr) (n c : Nat) (P : List Pc) : Prop where
  row : Row w W.heap.size 56 2 (.slice A n c) n (P.flatMap Pc.cells)
  len : P.length = n
  bel : Below W.heap.size W w
theorem PcSt.alloc {W w : World} {A : Option Addr} {n c : Nat} {P : List Pc} (h : PcSt W w A n c P) (o : Obj) : PcSt W (w.alloc o) A n c P := ⟨h.row.alloc o, h.len, h.bel.alloc h.bel.size o⟩
theorem PcSt.below {W w w' : World} {A : Option Addr} {n c : Nat} {P : List Pc} (h : PcSt W w A n c P) (hb : Below w.heap.size w w') : PcSt W w' A n c P := ⟨h.row.grow hb, h.len, h.bel.trans (hb.mono h.bel.size)⟩
theorem PcSt.drewN {W w : World} {A : Option Addr} {n c : Nat} {P : List Pc} (h : PcSt W w A n c P) (k : Nat) : PcSt W (w.drewN k) A n c P := ⟨h.row, h.len, _root_.Go.below_drewN h.bel k⟩
theorem PcSt.app {W w w2 : World} {A : Option Addr} {n c : Nat} {P : List Pc} {p : Pc} {o : Obj} {A2 : Option Addr} {c2 : Nat} (h : PcSt W w A n c P)
    (hr2 : Row w2 W.heap.size 56 2 (.slice A2 (n + 1) c2) (n + 1) (P.flatMap Pc.cells ++ p.cells)) (hg2 : (w.alloc o).grownBy w2 (Value.slice A n c).ownBlock) : PcSt W w2 A2 (n + 1) c2 (P ++ [p]) := by
  refine ⟨?_, by simp [h.len], ?_⟩
  · rw [List.flatMap_append]; simpa using hr2
  · have hs := h.bel.size
    have h1 : Below W.heap.size W (w.alloc o) := h.bel.alloc h.bel.size o
    exact h1.trans ((Fr.of_grown hg2).below (by simp; omega) (fun k hk => (h.row.lt k hk).1))
/-- A block beside the pieces' own. -/
def Bk (w : World) (A : Option Addr) (n c : Nat) (g : Nat) (cs : Array Value) (t : TypeId) : Prop := Blk w g cs t ∧ (Value.slice A n c).ownBlock ≠ some g
theorem Bk.app {w w2 : World} {A : Option Addr} {n c g : Nat} {cs : Array Value} {t : TypeId} {o : Obj} {A2 : Option Addr} {n2 c2 : Nat} (h : Bk w A n c g cs t) (hg2 : (w.alloc o).grownBy w2 (Value.slice A n c).ownBlock)
    (ho2 : (Value.slice A2 n2 c2).ownBlock = (Value.slice A n c).ownBlock ∨ (Value.slice A2 n2 c2).ownBlock = some (w.heap.size + 1)) : Bk w2 A2 n2 c2 g cs t :=
  ⟨(h.1.alloc o).grown hg2 (Ne.symm h.2), own_ne ho2 h.2 (by have := h.1.lt; omega)⟩
theorem Bk.new {W w : World} {A : Option Addr} {n c : Nat} {P : List Pc} (h : PcSt W w A n c P) (cs : Array Value) (t : TypeId) : Bk (w.alloc (.cells cs t)) A n c w.heap.size cs t :=
  ⟨Blk.new w cs t, fun e => by have := (h.row.lt _ e).2; omega⟩
theorem Bk.below {w w' : World} {A : Option Addr} {n c g : Nat} {cs : Array Value} {t : TypeId} (h : Bk w A n c g cs t) (hb : Below w.heap.size w w') : Bk w' A n c g cs t := ⟨h.1.fr (Fr.of_grow hb) (fun h => h), h.2⟩
theorem Bk.alloc {w : World} {A : Option Addr} {n c g : Nat} {cs : Array Value} {t : TypeId} (h : Bk w A n c g cs t) (o : Obj) : Bk (w.alloc o) A n c g cs t := ⟨h.1.alloc o, h.2⟩
/-! plain -/
theorem pc1_len (x : List UInt8) : (pc1 x).length ≤ 1 := by unfold pc1; split <;> simp
theorem pcsV_len : ∀ (k : Nat) (L : List (List UInt8)), (pcsV k L).length ≤ 2 * L.length
  | _, [] => by simp [pcsV]
  | 0, x :: r => by have := pcsV_len 1 r; have := pc1_len x; simp only [pcsV, List.length_append, List.length_cons]; omega
  | k + 1, x :: r => by have := pcsV_len (k + 2) r; have := pc1_len x; simp only [pcsV, List.length_append, List.length_cons]; omega
theorem pcsP_len : ∀ (k : Nat) (L : List (List UInt8)), (pcsP k L).length ≤ 2 * L.length
  | _, [] => by simp [pcsP]
  | 0, x :: r => by have := pcsP_len 1 r; have := pc1_len x; simp only [pcsP, List.length_append, List.length_cons]; omega
  | k + 1, x :: r => by have := pcsP_len (k + 2) r; have := pc1_len (32 :: x); simp only [pcsP, List.length_append, List.length_cons]; omega
theorem pc1_size {x : List UInt8} {K : Nat} (h : x.length ≤ K) : ∀ p ∈ pc1 x, p.s.size ≤ K := by
  unfold pc1
  split
  · intro p hp; cases hp
  · intro p hp; simp at hp; subst hp; exact h
theorem pcsV_size {K : Nat} : ∀ (k : Nat) (L : List (List UInt8)), (∀ x ∈ L, x.length ≤ K) → ∀ p ∈ pcsV k L, p.s.size ≤ K + 1
  | _, [], _, p, hp => by simp [pcsV] at hp
  | 0, x :: r, h, p, hp => by
    simp only [pcsV, List.mem_append] at hp
    rcases hp with hp | hp
    · have := pc1_size (h x (by simp)) p hp; omega
    · exact pcsV_size 1 r (fun y hy => h y (by simp [hy])) p hp
  | k + 1, x :: r, h, p, hp => by
    simp only [pcsV, List.mem_append, List.mem_cons] at hp
    rcases hp with rfl | hp | hp
    · show (0 : Nat) ≤ _; omega
    · have := pc1_size (h x (by simp)) p hp; omega
    · exact pcsV_size (k + 2) r (fun y hy => h y (by simp [hy])) p hp
theorem pcsP_size {K : Nat} : ∀ (k : Nat) (L : List (List UInt8)), (∀ x ∈ L, x.length ≤ K) → ∀ p ∈ pcsP k L, p.s.size ≤ K + 1
  | _, [], _, p, hp => by simp [pcsP] at hp
  | 0, x :: r, h, p, hp => by
    simp only [pcsP, List.mem_append] at hp
    rcases hp with hp | hp
    · have := pc1_size (h x (by simp)) p hp; omega
    · exact pcsP_size 1 r (fun y hy => h y (by simp [hy])) p hp
  | k + 1, x :: r, h, p, hp => by
    simp only [pcsP, List.mem_append] at hp
    rcases hp with hp | hp
    · have := pc1_size (K := K + 1) (show (32 :: x).length ≤ K + 1 by have := h x (by simp); simp; omega) p hp; omega
    · exact pcsP_size (k + 2) r (fun y hy => h y (by simp [hy])) p hp
theorem blen (s : ByteArray) : s.data.toList.length = s.size := by simp
theorem pcsOf_len {T : ByteArray} {vars : List Vr} {p : Pt} (hv : (valS T vars p.text).size ≤ 60) (hp : p.text.size ≤ 1048576) : (pcsOf T vars p).length ≤ 2097154 := by
  unfold pcsOf
  split
  · simp
  · split
    · have h1 := pcsV_len 0 (spl (valS T vars p.text).data.toList)
      have h2 := spl_len (valS T vars p.text).data.toList
      have h3 := blen (valS T vars p.text)
      omega
    · have h1 := pcsP_len 0 (spl p.text.data.toList)
      have h2 := spl_len p.text.data.toList
      have h3 := blen p.text
      omega
theorem pcsOf_size {T : ByteArray} {vars : List Vr} {p : Pt} (hv : (valS T vars p.text).size ≤ 60) (hp : p.text.size ≤ 1048576) : ∀ x ∈ pcsOf T vars p, x.s.size ≤ 1048577 := by
  unfold pcsOf
  split
  · intro x hx
    simp at hx
    subst hx
    dsimp only
    split <;> omega
  · split
    · intro x hx
      have h3 := blen (valS T vars p.text)
      have := pcsV_size (K := 60) 0 (spl (valS T vars p.text).data.toList) (fun y hy => by have := spl_size _ y hy; omega) x hx
      omega
    · intro x hx
      have h3 := blen p.text
      have := pcsP_size (K := 1048576) 0 (spl p.text.data.toList) (fun y hy => by have := spl_size _ y hy; omega) x hx
      omega
theorem take_snocP {T : ByteArray} {vars : List Vr} {ps : List Pt} {j : Nat} (h : j < ps.length) : (ps.take (j + 1)).flatMap (pcsOf T vars) = (ps.take j).flatMap (pcsOf T vars) ++ pcsOf T vars (ps.getD j Pt.zero) := by
  have hgj : ps.getD j Pt.zero = ps[j] := by simp [List.getD, List.getElem?_eq_getElem h]
  rw [List.take_succ_eq_append_getElem h, List.flatMap_append, hgj]; simp
theorem take_snocF {X : List Pc} {j : Nat} (h : j < X.length) : (X.take (j + 1)).foldl Fs.step Fs.init = ((X.take j).foldl Fs.step Fs.init).step (X.getD j Pc.zero) := by
  have hgj : X.getD j Pc.zero = X[j] := by simp [List.getD, List.getElem?_eq_getElem h]
  rw [List.take_succ_eq_append_getElem h, List.foldl_append, hgj]; rfl
theorem drop_ls {L : List (List UInt8)} {k : Nat} (h : k < L.length) : ∃ x, L[k]? = some x ∧ L.drop k = x :: L.drop (k + 1) := ⟨L[k], List.getElem?_eq_getElem h, List.drop_eq_getElem_cons h⟩
theorem pc1_none : pc1 [] = [] := rfl
theorem pc1_some {x : List UInt8} (h : x ≠ []) : pc1 x = [⟨bs x, false⟩] := by unfold pc1; rw [if_neg h]
theorem stepV0 {x : List UInt8} {r : List (List UInt8)} : pcsV 0 (x :: r) = pc1 x ++ pcsV 1 r := rfl
theorem stepV1 {k : Nat} (hk : 0 < k) {x : List UInt8} {r : List (List UInt8)} : pcsV k (x :: r) = ⟨ByteArray.empty, true⟩ :: (pc1 x ++ pcsV (k + 1) r) := by
  obtain ⟨j, rfl⟩ : ∃ j, k = j + 1 := ⟨k - 1, by omega⟩
  rfl
theorem stepP0 {x : List UInt8} {r : List (List UInt8)} : pcsP 0 (x :: r) = pc1 x ++ pcsP 1 r := rfl
theorem stepP1 {k : Nat} (hk : 0 < k) {x : List UInt8} {r : List (List UInt8)} : pcsP k (x :: r) = pc1 (32 :: x) ++ pcsP (k + 1) r := by
  obtain ⟨j, rfl⟩ : ∃ j, k = j + 1 := ⟨k - 1, by omega⟩
  rfl
theorem bs_size0 {x : List UInt8} : (bs x).size = x.length := by show x.toArray.size = _; simp
theorem fields_ok {T op : ByteArray} {ps : List Pt} {vars : List Vr} {X : List Pc} {f : Fs} (hX : X = ps.flatMap (pcsOf T vars) ++ [(⟨ByteArray.empty, true⟩ : Pc)]) (hf : f = X.foldl Fs.step Fs.init) : (ps.foldl (Fs.part T vars) Fs.init).fin = f := by
  rw [hf, hX, fold_all]

set_option maxHeartbeats 16000000 in
set_option maxRecDepth 100000 in
theorem fields_any (op : ByteArray) (A : Option Addr) (n c : Nat) (kk : Int) (ps : List Pt) (VA : Option Addr) (vn vc : Nat) (vars : List Vr) (k : Int) (w : World) (B : Nat) (h : In w B op A n ps VA vn vars) (hB : B ≤ w.heap.size) (hv : VarOk w) (h0 : -9223372036854775808 ≤ k) (h1 : k ≤ 9223372036854775807) :
    Calls Tryd.prog 8 #[.agg #[.string op, .slice A n c, .int .i64 kk], .slice VA vn vc, .int .i64 k] w (XPost (expandS (itoaS k) op ps vars) w) := by
  obtain ⟨i0, hi, hz0, hz1, hz2⟩ := info_parts infoPc
  obtain ⟨i9, hi9, hy0, hy1, hy2⟩ := info_parts infoS
  have hT := itoaS_le k h0 h1
  have hx0 := Blk.new w #[.string op, .slice A n c, .int .i64 kk] 37
  have hb0 : Below w.heap.size w (w.alloc (.cells #[.string op, .slice A n c, .int .i64 kk] 37)) := (Below.refl _ _).alloc (Nat.le_refl _) _
  obtain ⟨W, hW⟩ : ∃ W, W = w.alloc (.cells #[.string op, .slice A n c, .int .i64 kk] 37) := ⟨_, rfl⟩
  rw [← hW] at hx0 hb0
  have hc0 := hx0.cell
  have hlt0 := hx0.lt
  have H0 := Lib.hid (h.below hb0 hB)
  have hl1 := hv.lt
  have HVO := Lib.hid (hv.below hb0 hl1)
  have hsW : W.heap.size = w.heap.size + 1 := by rw [hW]; simp
  obtain ⟨g0, hg0⟩ : ∃ g, w.heap.size = g := ⟨_, rfl⟩
  rw [hg0] at hb0 hx0 hc0 hlt0 hsW hB hl1
  have HB0 := Lib.hid hb0
  have HG0 := Lib.hid hg0
  have HW := Lib.hid hW
  clear hW hb0 hx0 h hv
  have HN := Lib.hid (fun (s : ByteArray) (hs : s.size ≤ 9223372036854775807) (W : World) => wordName_any s W hs)
  have HIT := Lib.hid (fun (W' : World) (hb : Below W.heap.size W W') => itoa_any k W' h0 h1 (HVO.out.below hb (by omega)))
  obtain ⟨T, hTT⟩ : ∃ T, itoaS k = T := ⟨_, rfl⟩
  rw [hTT] at HIT hT ⊢
  clear hTT
  have hfv := H0.out.fewv
  have hfp := H0.out.fewp
  have hvl := H0.out.vs.2
  have hpl := H0.out.parts.2
  clear hsW
  by_cases ho : op.size = 0
  rotate_left
  · have e := Lib.hid (expand_op (T := T) (ps := ps) (vars := vars) ho)
    have hne := bytes_some ho
    go_enter Tryd.func8, Tryd.ntmps8
    go_wp2_with fail
    rw [← HW.out]
    clear HW
    go_wp2
    refine bodyPost_ret (v := .tuple #[.slice none 0 0, .int .i64 1]) (by simp [results, Tryd.results8, go_sem]) rfl ?_
    rw [e.out]
    exact XPost.bad (by rw [HG0.out]; exact HB0.out)
  have hne := bytes_none ho
  go_enter Tryd.func8, Tryd.ntmps8
  go_wp2_with fail
  rw [← HW.out]
  clear HW
  go_wp2_with fail
  go_loopw [27] (fun i wr => ∃ j : Nat, j ≤ vn ∧ i = .int .i64 j ∧ Hid (varsErr vars = varsErr (vars.drop j)) ∧ Below W.heap.size W wr) (fun i _ => vn - (intOf i).toNat)
  case atStart => exact ⟨0, Nat.zero_le _, rfl, Lib.hid rfl, Below.refl _ _⟩
  case round =>
    obtain ⟨j, hj, rfl, hd, hbw⟩ := hrel
    have hsw := hbw.size
    by_cases hjn : j < vn
    · obtain ⟨bb, o, rfl, hbb, hm, hcs⟩ := RS.at_ (cl := Vr.cells) (s := 2) Vr.len Vr.zero H0.out.vs hjn
      have x0 := (hbw.cell (p := ⟨bb, o + j * 2 + 0, none⟩) (show bb < W.heap.size by omega)).trans (hcs 0 _ rfl)
      have x1 := (hbw.cell (p := ⟨bb, o + j * 2 + 1, none⟩) (show bb < W.heap.size by omega)).trans (hcs 1 _ rfl)
      have hsm := H0.out.smallv _ hm
      have HD := Lib.hid hd.out
      rw [drop_vr (show j < vars.length by omega)] at HD
      clear hcs hm hd HIT
      generalize vars.getD j Vr.zero = v at *
      obtain ⟨vn', vv⟩ := v
      dsimp only at x0 x1 hsm
      rw [Nat.add_zero] at x0
      have hkn : (j : Int) < vn := by omega
      have hk0 : (0 : Int) ≤ j := by omega
      obtain ⟨gv, hgv⟩ : ∃ g, wr.heap.size = g := ⟨_, rfl⟩
      have hbv := Blk.new wr #[.string vn', .string vv] 43
      rw [hgv] at hbv
      have hB5 : Below wr.heap.size wr (wr.alloc (.cells #[.string vn', .string vv] 43)) := (Below.refl _ _).alloc (Nat.le_refl _) _
      have hb6 := hbw.trans (hB5.mono (by omega))
      have HNM := Lib.hid (HN.out vn' (by omega) (wr.alloc (.cells #[.string vn', .string vv] 43)))
      unfold SameB at HNM
      have HBV := Lib.hid hbv
      have HB5 := Lib.hid hb6
      clear hbv hB5 hb6
      have hgl : gv < (wr.alloc (.cells #[.string vn', .string vv] 43)).heap.size := by simp; omega
      cases hnm : nameW (nums vn') with
      | false =>
        have HE := Lib.hid ((HD.out.trans (varsErr_form hnm)))
        rw [hnm] at HNM
        clear hnm
        have e := Lib.hid (expand_var (T := T) (ps := ps) ho (show varsErr vars ≠ 0 by rw [HE.out]; decide))
        go_wp2_with fail
        refine HNM.out.mono ?_
        rintro e w6 ⟨rfl, hb6⟩
        have HB6 := Lib.hid (HB5.out.trans (hb6.mono HB5.out.size))
        clear hb6
        go_wp2
        refine bodyPost_ret (v := .tuple #[.slice none 0 0, .int .i64 3]) (by simp [results, Tryd.results8, go_sem]) rfl ?_
        rw [e.out, HE.out]
        exact XPost.bad (by rw [HG0.out]; exact HB0.out.trans (HB6.out.mono (by omega)))
      | true =>
        rw [hnm] at HNM
        by_cases hlg : 60 < vv.size
        · have HE := Lib.hid ((HD.out.trans (varsErr_large hnm hlg)))
          clear hnm
          have e := Lib.hid (expand_var (T := T) (ps := ps) ho (show varsErr vars ≠ 0 by rw [HE.out]; decide))
          have hlg' : (60 : Int) < vv.size := by omega
          go_wp2_with fail
          refine HNM.out.mono ?_
          rintro e w6 ⟨rfl, hb6⟩
          have y1 := ((HBV.out.fr (Fr.of_grow hb6) (fun h => h)).cell 1).trans (show _ = some (Value.string vv) from rfl)
          have yl := (HBV.out.fr (Fr.of_grow hb6) (fun h => h)).lt
          have HB6 := Lib.hid (HB5.out.trans (hb6.mono HB5.out.size))
          clear hb6
          go_wp2
          refine bodyPost_ret (v := .tuple #[.slice none 0 0, .int .i64 2]) (by simp [results, Tryd.results8, go_sem]) rfl ?_
          rw [e.out, HE.out]
          exact XPost.bad (by rw [HG0.out]; exact HB0.out.trans (HB6.out.mono (by omega)))
        · have HE := Lib.hid ((HD.out.trans (varsErr_next hnm hlg)))
          clear hnm
          have hlg' : ¬ (60 : Int) < vv.size := by omega
          go_wp2_with fail
          refine HNM.out.mono ?_
          rintro e w6 ⟨rfl, hb6⟩
          have y1 := ((HBV.out.fr (Fr.of_grow hb6) (fun h => h)).cell 1).trans (show _ = some (Value.string vv) from rfl)
          have yl := (HBV.out.fr (Fr.of_grow hb6) (fun h => h)).lt
          have HB6 := Lib.hid (HB5.out.trans (hb6.mono HB5.out.size))
          clear hb6
          go_wp2
          go_roundw
          case rel => exact ⟨j + 1, by omega, by go_num, HE, HB6.out⟩
          case measure => simp [intOf]; omega
    obtain rfl : j = vn := by omega
    have hve : varsErr vars = 0 := hd.out.trans (by rw [List.drop_of_length_le (by omega)]; rfl)
    have hvs := varsErr_zero hve
    have HVE := Lib.hid hve
    clear hve hd HN hj hjn
    obtain ⟨vn, hvn⟩ : ∃ x, x = j := ⟨_, rfl⟩
    subst hvn
    have hc1 := (hbw.cell (p := ⟨g0, 1, none⟩) (show g0 < W.heap.size by omega)).trans ((hc0 1).trans (show _ = some (.slice A n c) from rfl))
    have hlg : g0 < wr.heap.size := by omega
    have HS0 : Hid (PcSt W wr none 0 0 []) := Lib.hid ⟨Row.nil _ _ _ _, rfl, hbw⟩
    clear hbw
    go_wp2_with fail
    clear hc1
    go_loopw [10, 43] (fun v10 i wr => ∃ (j : Nat) (PA : Option Addr) (pn pc : Nat) (P : List Pc), j ≤ n ∧ v10 = .slice PA pn pc ∧ i = .int .i64 j ∧ Hid (P = (ps.take j).flatMap (pcsOf T vars)) ∧ pn ≤ j * 2097154 ∧ Hid (PcSt W wr PA pn pc P)) (fun _ i _ => n - (intOf i).toNat)
    case atStart => exact ⟨0, none, 0, 0, [], Nat.zero_le _, rfl, rfl, Lib.hid rfl, Nat.zero_le _, HS0⟩
    case round =>
      clear HS0
      obtain ⟨j, PA, pn, pc, P, hj, rfl, rfl, hPP, hpn, HP⟩ := hrel
      have hsw2 := HP.out.bel.size
      by_cases hjn : j < n
      rotate_left
      · obtain rfl : j = n := by omega
        have HPA := Lib.hid (hPP.out.trans (by rw [List.take_of_length_le (by omega)]) : P = ps.flatMap (pcsOf T vars))
        go_wp2_with (at_builtin; refine wpList_append_row _ rfl (.tmp 119) (.tmp 121) 53 rfl W.heap.size 56 i0 (.agg #[.string ⟨#[]⟩, .bool false]) 2 24 Tryd.underlying53 hi hz0 hz1 hz2 rfl (by decide) (.slice PA pn pc) pn (P.flatMap Pc.cells) rfl (HP.out.row.alloc _) (wr.heap.size + 1) (some ⟨wr.heap.size, 0, none⟩) 1 1 (Pc.cells ⟨ByteArray.empty, true⟩) rfl (reads_cells wr (Pc.cells ⟨ByteArray.empty, true⟩) 56 rfl) (pc_oneCell _) (by unfold maxLen; omega) (by omega) (by have := HP.out.bel.size; simp; omega) ?_)
        intro PA3 pc3 w3 hr3 hg3 ho3
        obtain ⟨N, hN⟩ : ∃ k, k = pn + 1 := ⟨_, rfl⟩
        rw [← hN] at hr3 ⊢
        have HP3 := Lib.hid (show PcSt W w3 PA3 N pc3 (P ++ [⟨ByteArray.empty, true⟩]) by rw [hN] at hr3 ⊢; exact HP.out.app hr3 hg3)
        obtain ⟨X, hX⟩ : ∃ X, X = P ++ [⟨ByteArray.empty, true⟩] := ⟨_, rfl⟩
        rw [← hX] at HP3
        have HXE : Hid (X = ps.flatMap (pcsOf T vars) ++ [(⟨ByteArray.empty, true⟩ : Pc)]) := Lib.hid (by rw [hX, HPA.out])
        have HXS : Hid (∀ x ∈ X, x.s.size ≤ 1048577) := Lib.hid (by
          rw [HXE.out]
          intro x hx
          rcases List.mem_append.1 hx with hx | hx
          · obtain ⟨p, hp, hx⟩ := List.mem_flatMap.1 hx
            exact pcsOf_size (valS_le hT hvs) (H0.out.smallp p hp) x hx
          · simp at hx; subst hx; show (0 : Nat) ≤ _; omega)
        have hXN := HP3.out.len
        have HRX : Hid (RS Pc.cells 2 w3 w3.heap.size PA3 N X) := Lib.hid ⟨HP3.out.row.reads, hXN⟩
        have HBW : Hid (Below g0 w w3) := Lib.hid (HB0.out.trans (HP3.out.bel.mono (by omega)))
        have hgw := HP3.out.bel.size
        have hNb : N ≤ 3000000000000 := by omega
        clear hr3 hg3 ho3 hX HPA HP hPP hN
        go_wp2_with fail
        go_loopw [17, 18, 19, 124] (fun v17 v18 v19 i wq => ∃ (j : Nat) (OA : Option Addr) (on oc : Nat) (f : Fs), j ≤ N ∧ v17 = .slice OA on oc ∧ v18 = .string f.now ∧ v19 = .bool f.some ∧ i = .int .i64 j ∧ Hid (f = (X.take j).foldl Fs.step Fs.init) ∧ f.now.size ≤ j * 1048577 ∧ f.out.length = on ∧ on ≤ j ∧ Hid (Row wq w3.heap.size 9 1 (.slice OA on oc) on (f.out.map Value.string)) ∧ Hid (Below w3.heap.size w3 wq)) (fun _ _ _ i _ => N - (intOf i).toNat)
        case atStart => exact ⟨0, none, 0, 0, Fs.init, Nat.zero_le _, rfl, rfl, rfl, rfl, Lib.hid rfl, Nat.zero_le _, rfl, Nat.zero_le _, Lib.hid (Row.nil _ _ _ _), Lib.hid (Below.refl _ _)⟩
        case round =>
          obtain ⟨q, OA, on, oc, f, hq, rfl, rfl, rfl, rfl, HF, hnow, hol, hon, HO, HBX⟩ := hrel
          have hsx := HBX.out.size
          by_cases hqn : q < N
          rotate_left
          · obtain rfl : q = N := by omega
            have HFF := Lib.hid (fields_ok (op := op) (ps := ps) (vars := vars) (T := T) HXE.out (HF.out.trans (by rw [List.take_of_length_le (by omega)])))
            have HBE : Hid (Below w.heap.size w wr) := Lib.hid (by rw [HG0.out]; exact HBW.out.trans (HBX.out.mono (by omega)))
            by_cases hmany : 40 < on
            · have e := Lib.hid (expand_many (T := T) ho HVE.out (by rw [HFF.out, hol]; exact hmany))
              have hm' : (40 : Int) < on := by omega
              go_wp2
              refine bodyPost_ret (v := .tuple #[.slice none 0 0, .int .i64 2]) (by simp [results, Tryd.results8, go_sem]) rfl ?_
              rw [e.out]
              exact XPost.bad HBE.out
            · have e := Lib.hid (expand_ok (T := T) ho HVE.out (by rw [HFF.out, hol]; exact hmany))
              rw [HFF.out] at e
              have hm' : ¬ (40 : Int) < on := by omega
              have HXX := Lib.hid (show XPost (f.out, 0) w _ wr from ⟨OA, on, oc, rfl, ⟨by rw [strC_flat]; exact HO.out.reads, hol⟩, by omega, HBE.out⟩)
              go_wp2
              refine bodyPost_ret (v := .tuple #[.slice OA on oc, .int .i64 0]) (by simp [results, Tryd.results8, go_sem]) rfl ?_
              rw [e.out]
              exact HXX.out
          obtain ⟨b6, o6, rfl, hb6, hm6, hcs6⟩ := RS.at_ (cl := Pc.cells) (s := 2) Pc.len Pc.zero HRX.out hqn
          have x0 := (HBX.out.cell (p := ⟨b6, o6 + q * 2 + 0, none⟩) hb6).trans (hcs6 0 _ rfl)
          have x1 := (HBX.out.cell (p := ⟨b6, o6 + q * 2 + 1, none⟩) hb6).trans (hcs6 1 _ rfl)
          have hsz := HXS.out _ hm6
          have hst := take_snocF (X := X) (j := q) (by omega)
          rw [← HF.out] at hst
          clear hcs6 hm6 HF
          generalize X.getD q Pc.zero = p at *
          have HST := Lib.hid hst
          clear hst
          obtain ⟨s, cut⟩ := p
          obtain ⟨out, now, some⟩ := f
          dsimp only at x0 x1 hsz hnow hol
          rw [Nat.add_zero] at x0
          have hkq : (q : Int) < N := by omega
          have hkq0 : (0 : Int) ≤ q := by omega
          have hB5 : Below wr.heap.size wr (wr.alloc (.cells #[.string s, .bool cut] 56)) := (Below.refl _ _).alloc (Nat.le_refl _) _
          have HB5 : Hid (Below w3.heap.size w3 (wr.alloc (.cells #[.string s, .bool cut] 56))) := Lib.hid (HBX.out.trans (hB5.mono (by omega)))
          have HO5 := Lib.hid (HO.out.alloc (.cells #[.string s, .bool cut] 56))
          clear hB5
          cases cut with
          | false =>
            have hS : Hid ((⟨out, now ++ s, true⟩ : Fs) = (X.take (q + 1)).foldl Fs.step Fs.init) := Lib.hid (HST.out.trans rfl).symm
            have hsz3 : ¬ 9223372036854775807 < now.size + s.size := by omega
            have hn2 : (now ++ s).size ≤ (q + 1) * 1048577 := by rw [ByteArray.size_append]; omega
            clear HST
            go_wp2
            go_roundw
            case rel => exact ⟨q + 1, OA, on, oc, ⟨out, now ++ s, true⟩, by omega, rfl, rfl, rfl, by go_num, hS, hn2, hol, by omega, HO5, HB5⟩
            case measure => simp [intOf]; omega
          | true =>
            cases some with
            | false =>
              have hS : Hid ((⟨out, now, false⟩ : Fs) = (X.take (q + 1)).foldl Fs.step Fs.init) := Lib.hid (HST.out.trans rfl).symm
              have hn2 : now.size ≤ (q + 1) * 1048577 := Nat.le_trans hnow (Nat.mul_le_mul_right _ (Nat.le_succ q))
              clear HST
              go_wp2
              go_roundw
              case rel => exact ⟨q + 1, OA, on, oc, ⟨out, now, false⟩, by omega, rfl, rfl, rfl, by go_num, hS, hn2, hol, by omega, HO5, HB5⟩
              case measure => simp [intOf]; omega
            | true =>
              have hS : Hid ((⟨out ++ [now], ByteArray.empty, false⟩ : Fs) = (X.take (q + 1)).foldl Fs.step Fs.init) := Lib.hid (HST.out.trans rfl).symm
              have hn2 : (ByteArray.empty).size ≤ (q + 1) * 1048577 := Nat.zero_le _
              clear HST
              have hrd := reads_one (wr.alloc (.cells #[.string s, .bool true] 56)) (.string now) 9
              rw [show (wr.alloc (.cells #[.string s, .bool true] 56)).heap.size = wr.heap.size + 1 by simp] at hrd
              have HRD := Lib.hid hrd
              clear hrd
              go_wp2_with (at_builtin; refine wpList_append_row _ rfl (.tmp 136) (.tmp 138) 27 rfl w3.heap.size 9 i9 (.string ⟨#[]⟩) 1 16 Tryd.underlying27 hi9 hy0 hy1 hy2 rfl (by decide) (.slice OA on oc) on (out.map Value.string) rfl (HO5.out.alloc _) (wr.heap.size + 1 + 1) (some ⟨wr.heap.size + 1, 0, none⟩) 1 1 [Value.string now] rfl HRD.out (str_oneCell _) (by unfold maxLen; omega) (by omega) (by simp; omega) ?_)
              intro A7 c7 w7 hr7 hg7 ho7
              have HB7 : Hid (Below w3.heap.size w3 w7) := Lib.hid ((HB5.out.alloc (by have := HB5.out.size; omega) _).trans ((Fr.of_grown hg7).below (by simp; omega) (fun k hk => (HO.out.lt k hk).1)))
              have HO7 : Hid (Row w7 w3.heap.size 9 1 (.slice A7 (on + 1) c7) (on + 1) ((out ++ [now]).map Value.string)) := Lib.hid (by simpa using hr7)
              have hol7 : (out ++ [now]).length = on + 1 := by simp [hol]
              clear hr7 hg7 ho7
              go_wp2
              go_roundw
              case rel => exact ⟨q + 1, A7, on + 1, c7, ⟨out ++ [now], ByteArray.empty, false⟩, by omega, rfl, rfl, rfl, by go_num, hS, hn2, hol7, by omega, HO7, HB7⟩
              case measure => simp [intOf]; omega
      obtain ⟨bb, o, rfl, hbb, hm, hcs⟩ := RS.at_ (cl := Pt.cells) (s := 3) (fun _ => rfl) Pt.zero H0.out.parts hjn
      have x0 := (HP.out.bel.cell (p := ⟨bb, o + j * 3 + 0, none⟩) (show bb < W.heap.size by omega)).trans (hcs 0 _ rfl)
      have x1 := (HP.out.bel.cell (p := ⟨bb, o + j * 3 + 1, none⟩) (show bb < W.heap.size by omega)).trans (hcs 1 _ rfl)
      have x2 := (HP.out.bel.cell (p := ⟨bb, o + j * 3 + 2, none⟩) (show bb < W.heap.size by omega)).trans (hcs 2 _ rfl)
      have hpt := H0.out.smallp _ hm
      have hnx := take_snocP (T := T) (vars := vars) (ps := ps) (j := j) (by omega)
      rw [← hPP.out] at hnx
      have hvle := valS_le (name := (ps.getD j Pt.zero).text) hT hvs
      have hxle := pcsOf_len hvle hpt
      obtain ⟨X, hX⟩ : ∃ X, X = P ++ pcsOf T vars (ps.getD j Pt.zero) := ⟨_, rfl⟩
      have hXl : X.length ≤ (j + 1) * 2097154 := by rw [hX, List.length_append, HP.out.len]; omega
      have HNX : Hid (X = (ps.take (j + 1)).flatMap (pcsOf T vars)) := Lib.hid (hX.trans hnx.symm)
      have HX := Lib.hid hX
      clear hcs hm hPP hnx hX hxle
      generalize ps.getD j Pt.zero = p at *
      obtain ⟨pt, pv, pq⟩ := p
      dsimp only at x0 x1 x2 hpt hvle
      rw [Nat.add_zero] at x0
      have hkn : (j : Int) < n := by omega
      have hk0 : (0 : Int) ≤ j := by omega
      obtain ⟨gp, hgp⟩ : ∃ g, wr.heap.size = g := ⟨_, rfl⟩
      obtain ⟨w5, hw5⟩ : ∃ w5, w5 = wr.alloc (.cells #[.string pt, .bool pv, .bool pq] 49) := ⟨_, rfl⟩
      have HB := Lib.hid (Bk.new HP.out #[.string pt, .bool pv, .bool pq] 49)
      have HP5 := Lib.hid (HP.out.alloc (.cells #[.string pt, .bool pv, .bool pq] 49))
      rw [← hw5] at HB HP5
      rw [hgp] at HB
      have HW5 := Lib.hid hw5
      have HGP := Lib.hid hgp
      clear HP hw5
      have HP := HP5
      clear HP5
      have hs5 := HP.out.bel.size
      have q0 := (HB.out.1.cell 0).trans (show _ = some (Value.string pt) from rfl)
      have q1 := (HB.out.1.cell 1).trans (show _ = some (Value.bool pv) from rfl)
      have q2 := (HB.out.1.cell 2).trans (show _ = some (Value.bool pq) from rfl)
      have ql := HB.out.1.lt
      cases pv with
      | false =>
        clear HIT hvle
        go_upto_region 16 with fail
        rw [← HW5.out]
        clear HW5 HGP hgp x0 x1 x2

        cases pq with
        | true =>
          have HPE := Lib.hid (show X = P ++ [⟨pt, false⟩] from HX.out.trans (by unfold pcsOf; rw [if_pos rfl]; rw [if_neg (by simp)]))
          go_wp2_with (at_builtin; refine wpList_append_row _ rfl (.tmp 83) (.tmp 86) 53 rfl W.heap.size 56 i0 (.agg #[.string ⟨#[]⟩, .bool false]) 2 24 Tryd.underlying53 hi hz0 hz1 hz2 rfl (by decide) (.slice PA pn pc) pn (P.flatMap Pc.cells) rfl (HP.out.row.alloc _) (w5.heap.size + 1) (some ⟨w5.heap.size, 0, none⟩) 1 1 (Pc.cells ⟨pt, false⟩) rfl (reads_cells w5 (Pc.cells ⟨pt, false⟩) 56 rfl) (pc_oneCell _) (by unfold maxLen; omega) (by omega) (by have := HP.out.bel.size; simp; omega) ?_)
          intro PA3 pc3 w8 hr3 hg3 ho3
          have HP3 := Lib.hid (HP.out.app (p := ⟨pt, false⟩) hr3 hg3)
          rw [← HPE.out] at HP3
          have HNE := Lib.hid HNX.out
          clear hr3 hg3 ho3
          go_wp2
          go_roundw
          case rel => exact ⟨j + 1, PA3, pn + 1, pc3, X, by omega, rfl, by go_num, HNE, by omega, HP3⟩
          case measure => simp [intOf]; omega
        | false =>
          have HSL : Hid (∀ x ∈ spl pt.data.toList, x.length ≤ pt.size) := Lib.hid (fun x hx => by have := spl_size _ x hx; rw [blen] at this; exact this)

          have HX2 := Lib.hid (show X = P ++ pcsP 0 (spl pt.data.toList) from HX.out.trans (by unfold pcsOf; rw [if_neg (by simp)]; rw [if_neg (by simp)]))
          have HSP := Lib.hid (split_any pt w5 (by omega) (HVO.out.below HP.out.bel (by omega)))
          have hll := spl_len pt.data.toList
          rw [blen] at hll
          generalize spl pt.data.toList = L at *
          go_wp2_with fail
          refine HSP.out.mono ?_
          rintro e w7 ⟨rfl, hw7⟩
          obtain ⟨gs, hgs⟩ : ∃ gs, w5.heap.size = gs := ⟨_, rfl⟩
          have hbs := Bk.new HP.out (L.map (fun x => Value.string (bs x))).toArray 9
          have HP7 := HP.out.alloc (.cells (L.map (fun x => Value.string (bs x))).toArray 9)
          have HB7 := HB.out.alloc (.cells (L.map (fun x => Value.string (bs x))).toArray 9)
          rw [← hw7] at hbs HP7 HB7
          rw [hgs] at hbs
          try rw [hgs]
          have HBS := Lib.hid hbs
          have HPP := Lib.hid HP7
          have HBB := Lib.hid HB7
          clear hw7 hgs hbs HP7 HB7 HP HB HSP
          go_wp2_with fail
          go_loopw [10, 91] (fun v10 i wq => ∃ (k : Nat) (PA2 : Option Addr) (pn2 pc2 : Nat) (P2 : List Pc), k ≤ L.length ∧ v10 = .slice PA2 pn2 pc2 ∧ i = .int .i64 k ∧ Hid (X = P2 ++ pcsP k (L.drop k)) ∧ Hid (PcSt W wq PA2 pn2 pc2 P2) ∧ Hid (Bk wq PA2 pn2 pc2 gp #[.string pt, .bool false, .bool false] 49) ∧ Hid (Bk wq PA2 pn2 pc2 gs (L.map (fun x => Value.string (bs x))).toArray 9)) (fun _ i _ => L.length - (intOf i).toNat)
          case atStart => exact ⟨0, PA, pn, pc, P, Nat.zero_le _, rfl, rfl, HX2, HPP, HBB, HBS⟩
          case round =>
            obtain ⟨k, PA2, pn2, pc2, P2, hk, rfl, rfl, hq, HP2, HB2, HS2⟩ := hrel
            have hpn2 : pn2 ≤ X.length := by rw [← HP2.out.len, hq.out, List.length_append]; omega
            by_cases hkl : k < L.length
            rotate_left
            · obtain rfl : k = L.length := by omega
              have HE := Lib.hid (hq.out.trans (by rw [List.drop_of_length_le (Nat.le_refl _)]; simp [pcsP]) : X = P2)
              have hle : pn2 ≤ (j + 1) * 2097154 := by omega
              go_wp2
              go_roundw
              case rel => exact ⟨j + 1, PA2, pn2, pc2, P2, by omega, rfl, by go_num, Lib.hid (HE.out.symm.trans HNX.out), hle, HP2⟩
              case measure => simp [intOf]; omega
            obtain ⟨x, hx1, hx2⟩ := drop_ls hkl
            have s0 := (HS2.out.1.cell k).trans (show _ = some (Value.string (bs x)) by simp [hx1])
            have hgsl := HS2.out.1.lt
            have hgpl := HB2.out.1.lt
            have p1 := (HB2.out.1.cell 1).trans (show _ = some (Value.bool false) from rfl)
            have hkn : (k : Int) < L.length := by omega
            have hk0 : (0 : Int) ≤ k := by omega
            have HQ := Lib.hid hq.out
            rw [hx2] at HQ
            have hxs := (bs_size0 (x := x))
            have hxl : x.length ≤ 4194304 := by have := HSL.out x (List.mem_of_getElem? hx1); omega
            obtain ⟨xb, hxb⟩ : ∃ xb, xb = bs x := ⟨_, rfl⟩
            rw [← hxb] at s0 hxs
            have HXB := Lib.hid hxb
            have HSV : Hid ((L.map (fun x => Value.string (bs x))).toArray[k]? = some (Value.string xb)) := Lib.hid (by rw [hxb]; simp [hx1])
            clear hx1 hx2 hxb hq
            by_cases hk1 : 0 < k
            · have hki : (0 : Int) < k := by omega
              rw [stepP1 hk1, pc1_some (by simp), ← bs_cons, ← HXB.out] at HQ
              have hsz2 : ¬ 9223372036854775807 < 1 + xb.size := by omega
              have hne := bytes_some (O := (⟨#[32]⟩ : ByteArray) ++ xb) (by rw [ByteArray.size_append]; show 1 + xb.size ≠ 0; omega)
              go_wp2_with (at_builtin; refine wpList_append_row _ rfl (.tmp 112) (.tmp 115) 53 rfl W.heap.size 56 i0 (.agg #[.string ⟨#[]⟩, .bool false]) 2 24 Tryd.underlying53 hi hz0 hz1 hz2 rfl (by decide) (.slice PA2 pn2 pc2) pn2 (P2.flatMap Pc.cells) rfl (HP2.out.row.alloc _) (wr.heap.size + 1) (some ⟨wr.heap.size, 0, none⟩) 1 1 (Pc.cells ⟨(⟨#[32]⟩ : ByteArray) ++ xb, false⟩) rfl (reads_cells wr (Pc.cells ⟨(⟨#[32]⟩ : ByteArray) ++ xb, false⟩) 56 rfl) (pc_oneCell _) (by unfold maxLen; omega) (by omega) (by have := HP2.out.bel.size; simp; omega) ?_)
              intro PA3 pc3 w3 hr3 hg3 ho3
              obtain ⟨pn3, hpn3⟩ : ∃ k, k = pn2 + 1 := ⟨_, rfl⟩
              rw [← hpn3] at hr3 ho3 ⊢
              have HP3 := Lib.hid (show PcSt W w3 PA3 pn3 pc3 (P2 ++ [⟨(⟨#[32]⟩ : ByteArray) ++ xb, false⟩]) by rw [hpn3] at hr3 ⊢; exact HP2.out.app hr3 hg3)
              have HB3 := Lib.hid (HB2.out.app hg3 ho3)
              have HS3 := Lib.hid (HS2.out.app hg3 ho3)
              obtain ⟨P3, hP3⟩ : ∃ P, P = P2 ++ [⟨(⟨#[32]⟩ : ByteArray) ++ xb, false⟩] := ⟨_, rfl⟩
              rw [← hP3] at HP3
              have HPE3 := Lib.hid hP3
              clear hr3 hg3 ho3 hP3 hpn3
              have HQ3 : Hid (X = P3 ++ pcsP (k + 1) (L.drop (k + 1))) := Lib.hid (by rw [HQ.out, HPE3.out]; simp)
    
              go_wp2
              go_roundw
              case rel => exact ⟨k + 1, PA3, pn3, pc3, P3, by omega, rfl, by go_num, HQ3, HP3, HB3, HS3⟩
              case measure => simp [intOf]; omega
            · obtain rfl : k = 0 := by omega
              rw [stepP0] at HQ
              by_cases hxe : x = []
              · have hne := bytes_none (O := xb) (by rw [hxs, hxe]; rfl)
                have HQ3 : Hid (X = P2 ++ pcsP (0 + 1) (L.drop (0 + 1))) := Lib.hid (by rw [HQ.out, hxe, pc1_none]; simp)
                clear hxe
                go_wp2
                go_roundw
                case rel => exact ⟨0 + 1, PA2, pn2, pc2, P2, by omega, rfl, by go_num, HQ3, HP2, HB2, HS2⟩
                case measure => simp [intOf]; omega
              · have hne := bytes_some (O := xb) (by rw [hxs]; intro h; exact hxe (List.eq_nil_of_length_eq_zero h))
                rw [pc1_some hxe, ← HXB.out] at HQ
                clear hxe
                go_wp2_with (at_builtin; refine wpList_append_row _ rfl (.tmp 112) (.tmp 115) 53 rfl W.heap.size 56 i0 (.agg #[.string ⟨#[]⟩, .bool false]) 2 24 Tryd.underlying53 hi hz0 hz1 hz2 rfl (by decide) (.slice PA2 pn2 pc2) pn2 (P2.flatMap Pc.cells) rfl (HP2.out.row.alloc _) (wr.heap.size + 1) (some ⟨wr.heap.size, 0, none⟩) 1 1 (Pc.cells ⟨xb, false⟩) rfl (reads_cells wr (Pc.cells ⟨xb, false⟩) 56 rfl) (pc_oneCell _) (by unfold maxLen; omega) (by omega) (by have := HP2.out.bel.size; simp; omega) ?_)
                intro PA3 pc3 w3 hr3 hg3 ho3
                obtain ⟨pn3, hpn3⟩ : ∃ k, k = pn2 + 1 := ⟨_, rfl⟩
                rw [← hpn3] at hr3 ho3 ⊢
                have HP3 := Lib.hid (show PcSt W w3 PA3 pn3 pc3 (P2 ++ [⟨xb, false⟩]) by rw [hpn3] at hr3 ⊢; exact HP2.out.app hr3 hg3)
                have HB3 := Lib.hid (HB2.out.app hg3 ho3)
                have HS3 := Lib.hid (HS2.out.app hg3 ho3)
                obtain ⟨P3, hP3⟩ : ∃ P, P = P2 ++ [⟨xb, false⟩] := ⟨_, rfl⟩
                rw [← hP3] at HP3
                have HPE3 := Lib.hid hP3
                clear hr3 hg3 ho3 hP3 hpn3
                have HQ3 : Hid (X = P3 ++ pcsP (0 + 1) (L.drop (0 + 1))) := Lib.hid (by rw [HQ.out, HPE3.out]; simp)
                go_wp2
                go_roundw
                case rel => exact ⟨0 + 1, PA3, pn3, pc3, P3, by omega, rfl, by go_num, HQ3, HP3, HB3, HS3⟩
                case measure => simp [intOf]; omega
      | true =>
        have HVV0 := Lib.hid (show valS T vars pt = valS T vars pt from rfl)
        obtain ⟨V, hVV⟩ : ∃ V, valS T vars pt = V := ⟨_, rfl⟩
        have HVV := Lib.hid hVV
        rw [hVV] at hvle
        clear hVV HVV0
        by_cases hqq : pt.data.toList = [63]
        · have hq2 : (pt.toList == [63]) = true := by rw [Lib.toList_data, hqq]; rfl
          have hVT : T = V := (valS_q (T := T) (vars := vars) hqq).symm.trans HVV.out
          have HI := Lib.hid (HIT.out w5 HP.out.bel)
          unfold SaysB at HI
          clear hqq HIT
          have HI := HI
          rw [hVT] at HI
          clear hVT
          go_upto_region 16 with fail
          rw [← HW5.out]
          clear HW5 HGP hgp x0 x1 x2
          go_wp2_with fail
          refine HI.out.mono ?_
          rintro e w6 ⟨rfl, hb6⟩
          have HP6 := Lib.hid (HP.out.below hb6)
          have HB6 := Lib.hid (HB.out.below hb6)
          clear HP HB hb6 HI q0 q1 q2 ql hs5
          have HP := HP6
          have HB := HB6
          clear HP6 HB6
          have q0 := (HB.out.1.cell 0).trans (show _ = some (Value.string pt) from rfl)
          have q1 := (HB.out.1.cell 1).trans (show _ = some (Value.bool true) from rfl)
          have q2 := (HB.out.1.cell 2).trans (show _ = some (Value.bool pq) from rfl)
          have ql := HB.out.1.lt
          have hs5 := HP.out.bel.size
          go_wp2_with fail
          clear q0 q1 q2 ql hs5
          go_loopw [13, 14] (fun v13 v14 wq => v13 = .string V ∧ v14 = .int .i64 ((vn : Int) - 1) ∧ Hid (PcSt W wq PA pn pc P) ∧ Hid (Bk wq PA pn pc gp #[.string pt, .bool true, .bool pq] 49)) (fun _ _ _ => 0)
          case atStart => exact ⟨rfl, rfl, HP, HB⟩
          case round =>
            clear HP HB
            obtain ⟨rfl, rfl, HP, HB⟩ := hrel
            have q0 := (HB.out.1.cell 0).trans (show _ = some (Value.string pt) from rfl)
            have q1 := (HB.out.1.cell 1).trans (show _ = some (Value.bool true) from rfl)
            have q2 := (HB.out.1.cell 2).trans (show _ = some (Value.bool pq) from rfl)
            have ql := HB.out.1.lt
            have hs5 := HP.out.bel.size
            by_cases hv0 : vn = 0
            · have hv1 : ¬ (0 : Int) ≤ (vn : Int) - 1 := by omega
              go_upto_region 25 with fail
              clear hv1 hv0 hq2

              cases pq with
              | true =>
                have HPE := Lib.hid (show X = P ++ [⟨V, false⟩] from HX.out.trans (by unfold pcsOf; rw [if_pos rfl]; rw [if_pos rfl, HVV.out]))
                go_wp2_with (at_builtin; refine wpList_append_row _ rfl (.tmp 83) (.tmp 86) 53 rfl W.heap.size 56 i0 (.agg #[.string ⟨#[]⟩, .bool false]) 2 24 Tryd.underlying53 hi hz0 hz1 hz2 rfl (by decide) (.slice PA pn pc) pn (P.flatMap Pc.cells) rfl (HP.out.row.alloc _) (wr.heap.size + 1) (some ⟨wr.heap.size, 0, none⟩) 1 1 (Pc.cells ⟨V, false⟩) rfl (reads_cells wr (Pc.cells ⟨V, false⟩) 56 rfl) (pc_oneCell _) (by unfold maxLen; omega) (by omega) (by have := HP.out.bel.size; simp; omega) ?_)
                intro PA3 pc3 w8 hr3 hg3 ho3
                have HP3 := Lib.hid (HP.out.app (p := ⟨V, false⟩) hr3 hg3)
                rw [← HPE.out] at HP3
                have HNE := Lib.hid HNX.out
                clear hr3 hg3 ho3
                go_wp2
                go_roundw
                case rel => exact ⟨j + 1, PA3, pn + 1, pc3, X, by omega, rfl, by go_num, HNE, by omega, HP3⟩
                case measure => simp [intOf]; omega
              | false =>
                have HSL : Hid (∀ x ∈ spl V.data.toList, x.length ≤ V.size) := Lib.hid (fun x hx => by have := spl_size _ x hx; rw [blen] at this; exact this)

                have HX2 := Lib.hid (show X = P ++ pcsV 0 (spl V.data.toList) from HX.out.trans (by unfold pcsOf; rw [if_neg (by simp)]; rw [if_pos rfl, HVV.out]))
                have HSP := Lib.hid (split_any V wr (by omega) (HVO.out.below HP.out.bel (by omega)))
                have hll := spl_len V.data.toList
                rw [blen] at hll
                generalize spl V.data.toList = L at *
                go_wp2_with fail
                refine HSP.out.mono ?_
                rintro e w7 ⟨rfl, hw7⟩
                obtain ⟨gs, hgs⟩ : ∃ gs, wr.heap.size = gs := ⟨_, rfl⟩
                have hbs := Bk.new HP.out (L.map (fun x => Value.string (bs x))).toArray 9
                have HP7 := HP.out.alloc (.cells (L.map (fun x => Value.string (bs x))).toArray 9)
                have HB7 := HB.out.alloc (.cells (L.map (fun x => Value.string (bs x))).toArray 9)
                rw [← hw7] at hbs HP7 HB7
                rw [hgs] at hbs
                try rw [hgs]
                have HBS := Lib.hid hbs
                have HPP := Lib.hid HP7
                have HBB := Lib.hid HB7
                clear hw7 hgs hbs HP7 HB7 HP HB HSP
                go_wp2_with fail
                go_loopw [10, 91] (fun v10 i wq => ∃ (k : Nat) (PA2 : Option Addr) (pn2 pc2 : Nat) (P2 : List Pc), k ≤ L.length ∧ v10 = .slice PA2 pn2 pc2 ∧ i = .int .i64 k ∧ Hid (X = P2 ++ pcsV k (L.drop k)) ∧ Hid (PcSt W wq PA2 pn2 pc2 P2) ∧ Hid (Bk wq PA2 pn2 pc2 gp #[.string pt, .bool true, .bool false] 49) ∧ Hid (Bk wq PA2 pn2 pc2 gs (L.map (fun x => Value.string (bs x))).toArray 9)) (fun _ i _ => L.length - (intOf i).toNat)
                case atStart => exact ⟨0, PA, pn, pc, P, Nat.zero_le _, rfl, rfl, HX2, HPP, HBB, HBS⟩
                case round =>
                  obtain ⟨k, PA2, pn2, pc2, P2, hk, rfl, rfl, hq, HP2, HB2, HS2⟩ := hrel
                  have hpn2 : pn2 ≤ X.length := by rw [← HP2.out.len, hq.out, List.length_append]; omega
                  by_cases hkl : k < L.length
                  rotate_left
                  · obtain rfl : k = L.length := by omega
                    have HE := Lib.hid (hq.out.trans (by rw [List.drop_of_length_le (Nat.le_refl _)]; simp [pcsV]) : X = P2)
                    have hle : pn2 ≤ (j + 1) * 2097154 := by omega
                    go_wp2
                    go_roundw
                    case rel => exact ⟨j + 1, PA2, pn2, pc2, P2, by omega, rfl, by go_num, Lib.hid (HE.out.symm.trans HNX.out), hle, HP2⟩
                    case measure => simp [intOf]; omega
                  obtain ⟨x, hx1, hx2⟩ := drop_ls hkl
                  have s0 := (HS2.out.1.cell k).trans (show _ = some (Value.string (bs x)) by simp [hx1])
                  have hgsl := HS2.out.1.lt
                  have hgpl := HB2.out.1.lt
                  have p1 := (HB2.out.1.cell 1).trans (show _ = some (Value.bool true) from rfl)
                  have hkn : (k : Int) < L.length := by omega
                  have hk0 : (0 : Int) ≤ k := by omega
                  have HQ := Lib.hid hq.out
                  rw [hx2] at HQ
                  have hxs := (bs_size0 (x := x))
                  have hxl : x.length ≤ 4194304 := by have := HSL.out x (List.mem_of_getElem? hx1); omega
                  obtain ⟨xb, hxb⟩ : ∃ xb, xb = bs x := ⟨_, rfl⟩
                  rw [← hxb] at s0 hxs
                  have HXB := Lib.hid hxb
                  have HSV : Hid ((L.map (fun x => Value.string (bs x))).toArray[k]? = some (Value.string xb)) := Lib.hid (by rw [hxb]; simp [hx1])
                  clear hx1 hx2 hxb hq
                  by_cases hk1 : 0 < k
                  · have hki : (0 : Int) < k := by omega
                    rw [stepV1 hk1] at HQ
                    have hpl2 := HP2.out.len
                    go_wp2_with (at_builtin; refine wpList_append_row _ rfl (.tmp 102) (.tmp 104) 53 rfl W.heap.size 56 i0 (.agg #[.string ⟨#[]⟩, .bool false]) 2 24 Tryd.underlying53 hi hz0 hz1 hz2 rfl (by decide) (.slice PA2 pn2 pc2) pn2 (P2.flatMap Pc.cells) rfl (HP2.out.row.alloc _) (wr.heap.size + 1) (some ⟨wr.heap.size, 0, none⟩) 1 1 (Pc.cells ⟨ByteArray.empty, true⟩) rfl (reads_cells wr (Pc.cells ⟨ByteArray.empty, true⟩) 56 rfl) (pc_oneCell _) (by unfold maxLen; omega) (by omega) (by have := HP2.out.bel.size; simp; omega) ?_)
                    intro PA3 pc3 w3 hr3 hg3 ho3
                    obtain ⟨pn3, hpn3⟩ : ∃ k, k = pn2 + 1 := ⟨_, rfl⟩
                    rw [← hpn3] at hr3 ho3 ⊢
                    have HP3 := Lib.hid (show PcSt W w3 PA3 pn3 pc3 (P2 ++ [⟨ByteArray.empty, true⟩]) by rw [hpn3] at hr3 ⊢; exact HP2.out.app hr3 hg3)
                    have HB3 := Lib.hid (HB2.out.app hg3 ho3)
                    have HS3 := Lib.hid (HS2.out.app hg3 ho3)
                    obtain ⟨P3, hP3⟩ : ∃ P, P = P2 ++ [⟨ByteArray.empty, true⟩] := ⟨_, rfl⟩
                    rw [← hP3] at HP3
                    have HPE3 := Lib.hid hP3
                    clear hr3 hg3 ho3 hP3 hpn3
                    have s3 := (HS3.out.1.cell k).trans (show _ = some (Value.string xb) from HSV.out)
                    have hgsl3 := HS3.out.1.lt
                    have hgpl3 := HB3.out.1.lt
                    have hgpl3' : gp < w3.heap.size := hgpl3
                    clear s0 p1 hgsl hgpl HP2 HB2 HS2
                    by_cases hxe : x = []
                    · have hne := bytes_none (O := xb) (by rw [hxs, hxe]; rfl)
                      have HQ3 : Hid (X = P3 ++ pcsV (k + 1) (L.drop (k + 1))) := Lib.hid (by rw [HQ.out, hxe, pc1_none, HPE3.out]; simp)
                      clear hxe
                      go_wp2
                      go_roundw
                      case rel => exact ⟨k + 1, PA3, pn3, pc3, P3, by omega, rfl, by go_num, HQ3, HP3, HB3, HS3⟩
                      case measure => simp [intOf]; omega
                    · have hne := bytes_some (O := xb) (by rw [hxs]; intro h; exact hxe (List.eq_nil_of_length_eq_zero h))
                      rw [pc1_some hxe, ← HXB.out] at HQ
                      clear hxe
                      have hpn3l : pn3 ≤ X.length := by rw [← HP3.out.len, HQ.out, HPE3.out]; simp <;> omega
                      go_wp2_with (at_builtin; refine wpList_append_row _ rfl (.tmp 112) (.tmp 115) 53 rfl W.heap.size 56 i0 (.agg #[.string ⟨#[]⟩, .bool false]) 2 24 Tryd.underlying53 hi hz0 hz1 hz2 rfl (by decide) (.slice PA3 pn3 pc3) pn3 (P3.flatMap Pc.cells) rfl (HP3.out.row.alloc _) (w3.heap.size + 1) (some ⟨w3.heap.size, 0, none⟩) 1 1 (Pc.cells ⟨xb, false⟩) rfl (reads_cells w3 (Pc.cells ⟨xb, false⟩) 56 rfl) (pc_oneCell _) (by unfold maxLen; omega) (by omega) (by have := HP3.out.bel.size; simp; omega) ?_)
                      intro PA4 pc4 w4 hr4 hg4 ho4
                      obtain ⟨pn4, hpn4⟩ : ∃ k, k = pn3 + 1 := ⟨_, rfl⟩
                      rw [← hpn4] at hr4 ho4 ⊢
                      have HP4 := Lib.hid (show PcSt W w4 PA4 pn4 pc4 (P3 ++ [⟨xb, false⟩]) by rw [hpn4] at hr4 ⊢; exact HP3.out.app hr4 hg4)
                      have HB4 := Lib.hid (HB3.out.app hg4 ho4)
                      have HS4 := Lib.hid (HS3.out.app hg4 ho4)
                      obtain ⟨P4, hP4⟩ : ∃ P, P = P3 ++ [⟨xb, false⟩] := ⟨_, rfl⟩
                      rw [← hP4] at HP4
                      have HPE4 := Lib.hid hP4
                      clear hr4 hg4 ho4 hP4 hpn4
                      have HQ4 : Hid (X = P4 ++ pcsV (k + 1) (L.drop (k + 1))) := Lib.hid (by rw [HQ.out, HPE4.out, HPE3.out]; simp)
                      go_wp2
                      go_roundw
                      case rel => exact ⟨k + 1, PA4, pn4, pc4, P4, by omega, rfl, by go_num, HQ4, HP4, HB4, HS4⟩
                      case measure => simp [intOf]; omega
                  · obtain rfl : k = 0 := by omega
                    rw [stepV0] at HQ
                    by_cases hxe : x = []
                    · have hne := bytes_none (O := xb) (by rw [hxs, hxe]; rfl)
                      have HQ3 : Hid (X = P2 ++ pcsV (0 + 1) (L.drop (0 + 1))) := Lib.hid (by rw [HQ.out, hxe, pc1_none]; simp)
                      clear hxe
                      go_wp2
                      go_roundw
                      case rel => exact ⟨0 + 1, PA2, pn2, pc2, P2, by omega, rfl, by go_num, HQ3, HP2, HB2, HS2⟩
                      case measure => simp [intOf]; omega
                    · have hne := bytes_some (O := xb) (by rw [hxs]; intro h; exact hxe (List.eq_nil_of_length_eq_zero h))
                      rw [pc1_some hxe, ← HXB.out] at HQ
                      clear hxe
                      go_wp2_with (at_builtin; refine wpList_append_row _ rfl (.tmp 112) (.tmp 115) 53 rfl W.heap.size 56 i0 (.agg #[.string ⟨#[]⟩, .bool false]) 2 24 Tryd.underlying53 hi hz0 hz1 hz2 rfl (by decide) (.slice PA2 pn2 pc2) pn2 (P2.flatMap Pc.cells) rfl (HP2.out.row.alloc _) (wr.heap.size + 1) (some ⟨wr.heap.size, 0, none⟩) 1 1 (Pc.cells ⟨xb, false⟩) rfl (reads_cells wr (Pc.cells ⟨xb, false⟩) 56 rfl) (pc_oneCell _) (by unfold maxLen; omega) (by omega) (by have := HP2.out.bel.size; simp; omega) ?_)
                      intro PA3 pc3 w3 hr3 hg3 ho3
                      obtain ⟨pn3, hpn3⟩ : ∃ k, k = pn2 + 1 := ⟨_, rfl⟩
                      rw [← hpn3] at hr3 ho3 ⊢
                      have HP3 := Lib.hid (show PcSt W w3 PA3 pn3 pc3 (P2 ++ [⟨xb, false⟩]) by rw [hpn3] at hr3 ⊢; exact HP2.out.app hr3 hg3)
                      have HB3 := Lib.hid (HB2.out.app hg3 ho3)
                      have HS3 := Lib.hid (HS2.out.app hg3 ho3)
                      obtain ⟨P3, hP3⟩ : ∃ P, P = P2 ++ [⟨xb, false⟩] := ⟨_, rfl⟩
                      rw [← hP3] at HP3
                      have HPE3 := Lib.hid hP3
                      clear hr3 hg3 ho3 hP3 hpn3
                      have HQ3 : Hid (X = P3 ++ pcsV (0 + 1) (L.drop (0 + 1))) := Lib.hid (by rw [HQ.out, HPE3.out]; simp)
                      go_wp2
                      go_roundw
                      case rel => exact ⟨0 + 1, PA3, pn3, pc3, P3, by omega, rfl, by go_num, HQ3, HP3, HB3, HS3⟩
                      case measure => simp [intOf]; omega
            · have hv1 : (0 : Int) ≤ (vn : Int) - 1 := by omega
              go_upto_region 25 with fail
              clear hv1 hv0 hq2

              cases pq with
              | true =>
                have HPE := Lib.hid (show X = P ++ [⟨V, false⟩] from HX.out.trans (by unfold pcsOf; rw [if_pos rfl]; rw [if_pos rfl, HVV.out]))
                go_wp2_with (at_builtin; refine wpList_append_row _ rfl (.tmp 83) (.tmp 86) 53 rfl W.heap.size 56 i0 (.agg #[.string ⟨#[]⟩, .bool false]) 2 24 Tryd.underlying53 hi hz0 hz1 hz2 rfl (by decide) (.slice PA pn pc) pn (P.flatMap Pc.cells) rfl (HP.out.row.alloc _) (wr.heap.size + 1) (some ⟨wr.heap.size, 0, none⟩) 1 1 (Pc.cells ⟨V, false⟩) rfl (reads_cells wr (Pc.cells ⟨V, false⟩) 56 rfl) (pc_oneCell _) (by unfold maxLen; omega) (by omega) (by have := HP.out.bel.size; simp; omega) ?_)
                intro PA3 pc3 w8 hr3 hg3 ho3
                have HP3 := Lib.hid (HP.out.app (p := ⟨V, false⟩) hr3 hg3)
                rw [← HPE.out] at HP3
                have HNE := Lib.hid HNX.out
                clear hr3 hg3 ho3
                go_wp2
                go_roundw
                case rel => exact ⟨j + 1, PA3, pn + 1, pc3, X, by omega, rfl, by go_num, HNE, by omega, HP3⟩
                case measure => simp [intOf]; omega
              | false =>
                have HSL : Hid (∀ x ∈ spl V.data.toList, x.length ≤ V.size) := Lib.hid (fun x hx => by have := spl_size _ x hx; rw [blen] at this; exact this)

                have HX2 := Lib.hid (show X = P ++ pcsV 0 (spl V.data.toList) from HX.out.trans (by unfold pcsOf; rw [if_neg (by simp)]; rw [if_pos rfl, HVV.out]))
                have HSP := Lib.hid (split_any V wr (by omega) (HVO.out.below HP.out.bel (by omega)))
                have hll := spl_len V.data.toList
                rw [blen] at hll
                generalize spl V.data.toList = L at *
                go_wp2_with fail
                refine HSP.out.mono ?_
                rintro e w7 ⟨rfl, hw7⟩
                obtain ⟨gs, hgs⟩ : ∃ gs, wr.heap.size = gs := ⟨_, rfl⟩
                have hbs := Bk.new HP.out (L.map (fun x => Value.string (bs x))).toArray 9
                have HP7 := HP.out.alloc (.cells (L.map (fun x => Value.string (bs x))).toArray 9)
                have HB7 := HB.out.alloc (.cells (L.map (fun x => Value.string (bs x))).toArray 9)
                rw [← hw7] at hbs HP7 HB7
                rw [hgs] at hbs
                try rw [hgs]
                have HBS := Lib.hid hbs
                have HPP := Lib.hid HP7
                have HBB := Lib.hid HB7
                clear hw7 hgs hbs HP7 HB7 HP HB HSP
                go_wp2_with fail
                go_loopw [10, 91] (fun v10 i wq => ∃ (k : Nat) (PA2 : Option Addr) (pn2 pc2 : Nat) (P2 : List Pc), k ≤ L.length ∧ v10 = .slice PA2 pn2 pc2 ∧ i = .int .i64 k ∧ Hid (X = P2 ++ pcsV k (L.drop k)) ∧ Hid (PcSt W wq PA2 pn2 pc2 P2) ∧ Hid (Bk wq PA2 pn2 pc2 gp #[.string pt, .bool true, .bool false] 49) ∧ Hid (Bk wq PA2 pn2 pc2 gs (L.map (fun x => Value.string (bs x))).toArray 9)) (fun _ i _ => L.length - (intOf i).toNat)
                case atStart => exact ⟨0, PA, pn, pc, P, Nat.zero_le _, rfl, rfl, HX2, HPP, HBB, HBS⟩
                case round =>
                  obtain ⟨k, PA2, pn2, pc2, P2, hk, rfl, rfl, hq, HP2, HB2, HS2⟩ := hrel
                  have hpn2 : pn2 ≤ X.length := by rw [← HP2.out.len, hq.out, List.length_append]; omega
                  by_cases hkl : k < L.length
                  rotate_left
                  · obtain rfl : k = L.length := by omega
                    have HE := Lib.hid (hq.out.trans (by rw [List.drop_of_length_le (Nat.le_refl _)]; simp [pcsV]) : X = P2)
                    have hle : pn2 ≤ (j + 1) * 2097154 := by omega
                    go_wp2
                    go_roundw
                    case rel => exact ⟨j + 1, PA2, pn2, pc2, P2, by omega, rfl, by go_num, Lib.hid (HE.out.symm.trans HNX.out), hle, HP2⟩
                    case measure => simp [intOf]; omega
                  obtain ⟨x, hx1, hx2⟩ := drop_ls hkl
                  have s0 := (HS2.out.1.cell k).trans (show _ = some (Value.string (bs x)) by simp [hx1])
                  have hgsl := HS2.out.1.lt
                  have hgpl := HB2.out.1.lt
                  have p1 := (HB2.out.1.cell 1).trans (show _ = some (Value.bool true) from rfl)
                  have hkn : (k : Int) < L.length := by omega
                  have hk0 : (0 : Int) ≤ k := by omega
                  have HQ := Lib.hid hq.out
                  rw [hx2] at HQ
                  have hxs := (bs_size0 (x := x))
                  have hxl : x.length ≤ 4194304 := by have := HSL.out x (List.mem_of_getElem? hx1); omega
                  obtain ⟨xb, hxb⟩ : ∃ xb, xb = bs x := ⟨_, rfl⟩
                  rw [← hxb] at s0 hxs
                  have HXB := Lib.hid hxb
                  have HSV : Hid ((L.map (fun x => Value.string (bs x))).toArray[k]? = some (Value.string xb)) := Lib.hid (by rw [hxb]; simp [hx1])
                  clear hx1 hx2 hxb hq
                  by_cases hk1 : 0 < k
                  · have hki : (0 : Int) < k := by omega
                    rw [stepV1 hk1] at HQ
                    have hpl2 := HP2.out.len
                    go_wp2_with (at_builtin; refine wpList_append_row _ rfl (.tmp 102) (.tmp 104) 53 rfl W.heap.size 56 i0 (.agg #[.string ⟨#[]⟩, .bool false]) 2 24 Tryd.underlying53 hi hz0 hz1 hz2 rfl (by decide) (.slice PA2 pn2 pc2) pn2 (P2.flatMap Pc.cells) rfl (HP2.out.row.alloc _) (wr.heap.size + 1) (some ⟨wr.heap.size, 0, none⟩) 1 1 (Pc.cells ⟨ByteArray.empty, true⟩) rfl (reads_cells wr (Pc.cells ⟨ByteArray.empty, true⟩) 56 rfl) (pc_oneCell _) (by unfold maxLen; omega) (by omega) (by have := HP2.out.bel.size; simp; omega) ?_)
                    intro PA3 pc3 w3 hr3 hg3 ho3
                    obtain ⟨pn3, hpn3⟩ : ∃ k, k = pn2 + 1 := ⟨_, rfl⟩
                    rw [← hpn3] at hr3 ho3 ⊢
                    have HP3 := Lib.hid (show PcSt W w3 PA3 pn3 pc3 (P2 ++ [⟨ByteArray.empty, true⟩]) by rw [hpn3] at hr3 ⊢; exact HP2.out.app hr3 hg3)
                    have HB3 := Lib.hid (HB2.out.app hg3 ho3)
                    have HS3 := Lib.hid (HS2.out.app hg3 ho3)
                    obtain ⟨P3, hP3⟩ : ∃ P, P = P2 ++ [⟨ByteArray.empty, true⟩] := ⟨_, rfl⟩
                    rw [← hP3] at HP3
                    have HPE3 := Lib.hid hP3
                    clear hr3 hg3 ho3 hP3 hpn3
                    have s3 := (HS3.out.1.cell k).trans (show _ = some (Value.string xb) from HSV.out)
                    have hgsl3 := HS3.out.1.lt
                    have hgpl3 := HB3.out.1.lt
                    have hgpl3' : gp < w3.heap.size := hgpl3
                    clear s0 p1 hgsl hgpl HP2 HB2 HS2
                    by_cases hxe : x = []
                    · have hne := bytes_none (O := xb) (by rw [hxs, hxe]; rfl)
                      have HQ3 : Hid (X = P3 ++ pcsV (k + 1) (L.drop (k + 1))) := Lib.hid (by rw [HQ.out, hxe, pc1_none, HPE3.out]; simp)
                      clear hxe
                      go_wp2
                      go_roundw
                      case rel => exact ⟨k + 1, PA3, pn3, pc3, P3, by omega, rfl, by go_num, HQ3, HP3, HB3, HS3⟩
                      case measure => simp [intOf]; omega
                    · have hne := bytes_some (O := xb) (by rw [hxs]; intro h; exact hxe (List.eq_nil_of_length_eq_zero h))
                      rw [pc1_some hxe, ← HXB.out] at HQ
                      clear hxe
                      have hpn3l : pn3 ≤ X.length := by rw [← HP3.out.len, HQ.out, HPE3.out]; simp <;> omega
                      go_wp2_with (at_builtin; refine wpList_append_row _ rfl (.tmp 112) (.tmp 115) 53 rfl W.heap.size 56 i0 (.agg #[.string ⟨#[]⟩, .bool false]) 2 24 Tryd.underlying53 hi hz0 hz1 hz2 rfl (by decide) (.slice PA3 pn3 pc3) pn3 (P3.flatMap Pc.cells) rfl (HP3.out.row.alloc _) (w3.heap.size + 1) (some ⟨w3.heap.size, 0, none⟩) 1 1 (Pc.cells ⟨xb, false⟩) rfl (reads_cells w3 (Pc.cells ⟨xb, false⟩) 56 rfl) (pc_oneCell _) (by unfold maxLen; omega) (by omega) (by have := HP3.out.bel.size; simp; omega) ?_)
                      intro PA4 pc4 w4 hr4 hg4 ho4
                      obtain ⟨pn4, hpn4⟩ : ∃ k, k = pn3 + 1 := ⟨_, rfl⟩
                      rw [← hpn4] at hr4 ho4 ⊢
                      have HP4 := Lib.hid (show PcSt W w4 PA4 pn4 pc4 (P3 ++ [⟨xb, false⟩]) by rw [hpn4] at hr4 ⊢; exact HP3.out.app hr4 hg4)
                      have HB4 := Lib.hid (HB3.out.app hg4 ho4)
                      have HS4 := Lib.hid (HS3.out.app hg4 ho4)
                      obtain ⟨P4, hP4⟩ : ∃ P, P = P3 ++ [⟨xb, false⟩] := ⟨_, rfl⟩
                      rw [← hP4] at HP4
                      have HPE4 := Lib.hid hP4
                      clear hr4 hg4 ho4 hP4 hpn4
                      have HQ4 : Hid (X = P4 ++ pcsV (k + 1) (L.drop (k + 1))) := Lib.hid (by rw [HQ.out, HPE4.out, HPE3.out]; simp)
                      go_wp2
                      go_roundw
                      case rel => exact ⟨k + 1, PA4, pn4, pc4, P4, by omega, rfl, by go_num, HQ4, HP4, HB4, HS4⟩
                      case measure => simp [intOf]; omega
                  · obtain rfl : k = 0 := by omega
                    rw [stepV0] at HQ
                    by_cases hxe : x = []
                    · have hne := bytes_none (O := xb) (by rw [hxs, hxe]; rfl)
                      have HQ3 : Hid (X = P2 ++ pcsV (0 + 1) (L.drop (0 + 1))) := Lib.hid (by rw [HQ.out, hxe, pc1_none]; simp)
                      clear hxe
                      go_wp2
                      go_roundw
                      case rel => exact ⟨0 + 1, PA2, pn2, pc2, P2, by omega, rfl, by go_num, HQ3, HP2, HB2, HS2⟩
                      case measure => simp [intOf]; omega
                    · have hne := bytes_some (O := xb) (by rw [hxs]; intro h; exact hxe (List.eq_nil_of_length_eq_zero h))
                      rw [pc1_some hxe, ← HXB.out] at HQ
                      clear hxe
                      go_wp2_with (at_builtin; refine wpList_append_row _ rfl (.tmp 112) (.tmp 115) 53 rfl W.heap.size 56 i0 (.agg #[.string ⟨#[]⟩, .bool false]) 2 24 Tryd.underlying53 hi hz0 hz1 hz2 rfl (by decide) (.slice PA2 pn2 pc2) pn2 (P2.flatMap Pc.cells) rfl (HP2.out.row.alloc _) (wr.heap.size + 1) (some ⟨wr.heap.size, 0, none⟩) 1 1 (Pc.cells ⟨xb, false⟩) rfl (reads_cells wr (Pc.cells ⟨xb, false⟩) 56 rfl) (pc_oneCell _) (by unfold maxLen; omega) (by omega) (by have := HP2.out.bel.size; simp; omega) ?_)
                      intro PA3 pc3 w3 hr3 hg3 ho3
                      obtain ⟨pn3, hpn3⟩ : ∃ k, k = pn2 + 1 := ⟨_, rfl⟩
                      rw [← hpn3] at hr3 ho3 ⊢
                      have HP3 := Lib.hid (show PcSt W w3 PA3 pn3 pc3 (P2 ++ [⟨xb, false⟩]) by rw [hpn3] at hr3 ⊢; exact HP2.out.app hr3 hg3)
                      have HB3 := Lib.hid (HB2.out.app hg3 ho3)
                      have HS3 := Lib.hid (HS2.out.app hg3 ho3)
                      obtain ⟨P3, hP3⟩ : ∃ P, P = P2 ++ [⟨xb, false⟩] := ⟨_, rfl⟩
                      rw [← hP3] at HP3
                      have HPE3 := Lib.hid hP3
                      clear hr3 hg3 ho3 hP3 hpn3
                      have HQ3 : Hid (X = P3 ++ pcsV (0 + 1) (L.drop (0 + 1))) := Lib.hid (by rw [HQ.out, HPE3.out]; simp)
                      go_wp2
                      go_roundw
                      case rel => exact ⟨0 + 1, PA3, pn3, pc3, P3, by omega, rfl, by go_num, HQ3, HP3, HB3, HS3⟩
                      case measure => simp [intOf]; omega
        · have hq2 : (pt.toList == [63]) = false := by rw [Lib.toList_data]; simpa using hqq
          have HVF := Lib.hid ((valS_v (T := T) (vars := vars) hqq).symm.trans HVV.out)
          clear hqq HIT
          go_upto_region 16 with fail
          rw [← HW5.out]
          clear HW5 HGP hgp x0 x1 x2
          go_wp2_with fail
          clear q0 q1 q2 ql hs5
          go_loopw [13, 14] (fun v13 v14 wq => ∃ (m : Nat) (i : Int), m ≤ vn ∧ i = (m : Int) - 1 ∧ v14 = .int .i64 i ∧ v13 = .string (valF (vars.drop m) pt) ∧ Hid (PcSt W wq PA pn pc P) ∧ Hid (Bk wq PA pn pc gp #[.string pt, .bool true, .bool pq] 49)) (fun _ i _ => (intOf i + 1).toNat)
          case atStart => exact ⟨vn, (vn : Int) - 1, Nat.le_refl _, rfl, by go_num, by rw [List.drop_of_length_le (by omega)]; rfl, HP, HB⟩
          case round =>
            clear HP HB
            obtain ⟨m, i, hm, hi', rfl, rfl, HP, HB⟩ := hrel
            have q0 := (HB.out.1.cell 0).trans (show _ = some (Value.string pt) from rfl)
            have q1 := (HB.out.1.cell 1).trans (show _ = some (Value.bool true) from rfl)
            have q2 := (HB.out.1.cell 2).trans (show _ = some (Value.bool pq) from rfl)
            have ql := HB.out.1.lt
            have hs5 := HP.out.bel.size
            by_cases hm0 : m = 0
            · subst hm0
              obtain rfl : i = -1 := by omega
              try rw [List.drop_zero]
              rw [HVF.out]
              clear hi' hm
              go_upto_region 25 with fail
              clear hq2

              cases pq with
              | true =>
                have HPE := Lib.hid (show X = P ++ [⟨V, false⟩] from HX.out.trans (by unfold pcsOf; rw [if_pos rfl]; rw [if_pos rfl, HVV.out]))
                go_wp2_with (at_builtin; refine wpList_append_row _ rfl (.tmp 83) (.tmp 86) 53 rfl W.heap.size 56 i0 (.agg #[.string ⟨#[]⟩, .bool false]) 2 24 Tryd.underlying53 hi hz0 hz1 hz2 rfl (by decide) (.slice PA pn pc) pn (P.flatMap Pc.cells) rfl (HP.out.row.alloc _) (wr.heap.size + 1) (some ⟨wr.heap.size, 0, none⟩) 1 1 (Pc.cells ⟨V, false⟩) rfl (reads_cells wr (Pc.cells ⟨V, false⟩) 56 rfl) (pc_oneCell _) (by unfold maxLen; omega) (by omega) (by have := HP.out.bel.size; simp; omega) ?_)
                intro PA3 pc3 w8 hr3 hg3 ho3
                have HP3 := Lib.hid (HP.out.app (p := ⟨V, false⟩) hr3 hg3)
                rw [← HPE.out] at HP3
                have HNE := Lib.hid HNX.out
                clear hr3 hg3 ho3
                go_wp2
                go_roundw
                case rel => exact ⟨j + 1, PA3, pn + 1, pc3, X, by omega, rfl, by go_num, HNE, by omega, HP3⟩
                case measure => simp [intOf]; omega
              | false =>
                have HSL : Hid (∀ x ∈ spl V.data.toList, x.length ≤ V.size) := Lib.hid (fun x hx => by have := spl_size _ x hx; rw [blen] at this; exact this)

                have HX2 := Lib.hid (show X = P ++ pcsV 0 (spl V.data.toList) from HX.out.trans (by unfold pcsOf; rw [if_neg (by simp)]; rw [if_pos rfl, HVV.out]))
                have HSP := Lib.hid (split_any V wr (by omega) (HVO.out.below HP.out.bel (by omega)))
                have hll := spl_len V.data.toList
                rw [blen] at hll
                generalize spl V.data.toList = L at *
                go_wp2_with fail
                refine HSP.out.mono ?_
                rintro e w7 ⟨rfl, hw7⟩
                obtain ⟨gs, hgs⟩ : ∃ gs, wr.heap.size = gs := ⟨_, rfl⟩
                have hbs := Bk.new HP.out (L.map (fun x => Value.string (bs x))).toArray 9
                have HP7 := HP.out.alloc (.cells (L.map (fun x => Value.string (bs x))).toArray 9)
                have HB7 := HB.out.alloc (.cells (L.map (fun x => Value.string (bs x))).toArray 9)
                rw [← hw7] at hbs HP7 HB7
                rw [hgs] at hbs
                try rw [hgs]
                have HBS := Lib.hid hbs
                have HPP := Lib.hid HP7
                have HBB := Lib.hid HB7
                clear hw7 hgs hbs HP7 HB7 HP HB HSP
                go_wp2_with fail
                go_loopw [10, 91] (fun v10 i wq => ∃ (k : Nat) (PA2 : Option Addr) (pn2 pc2 : Nat) (P2 : List Pc), k ≤ L.length ∧ v10 = .slice PA2 pn2 pc2 ∧ i = .int .i64 k ∧ Hid (X = P2 ++ pcsV k (L.drop k)) ∧ Hid (PcSt W wq PA2 pn2 pc2 P2) ∧ Hid (Bk wq PA2 pn2 pc2 gp #[.string pt, .bool true, .bool false] 49) ∧ Hid (Bk wq PA2 pn2 pc2 gs (L.map (fun x => Value.string (bs x))).toArray 9)) (fun _ i _ => L.length - (intOf i).toNat)
                case atStart => exact ⟨0, PA, pn, pc, P, Nat.zero_le _, rfl, rfl, HX2, HPP, HBB, HBS⟩
                case round =>
                  obtain ⟨k, PA2, pn2, pc2, P2, hk, rfl, rfl, hq, HP2, HB2, HS2⟩ := hrel
                  have hpn2 : pn2 ≤ X.length := by rw [← HP2.out.len, hq.out, List.length_append]; omega
                  by_cases hkl : k < L.length
                  rotate_left
                  · obtain rfl : k = L.length := by omega
                    have HE := Lib.hid (hq.out.trans (by rw [List.drop_of_length_le (Nat.le_refl _)]; simp [pcsV]) : X = P2)
                    have hle : pn2 ≤ (j + 1) * 2097154 := by omega
                    go_wp2
                    go_roundw
                    case rel => exact ⟨j + 1, PA2, pn2, pc2, P2, by omega, rfl, by go_num, Lib.hid (HE.out.symm.trans HNX.out), hle, HP2⟩
                    case measure => simp [intOf]; omega
                  obtain ⟨x, hx1, hx2⟩ := drop_ls hkl
                  have s0 := (HS2.out.1.cell k).trans (show _ = some (Value.string (bs x)) by simp [hx1])
                  have hgsl := HS2.out.1.lt
                  have hgpl := HB2.out.1.lt
                  have p1 := (HB2.out.1.cell 1).trans (show _ = some (Value.bool true) from rfl)
                  have hkn : (k : Int) < L.length := by omega
                  have hk0 : (0 : Int) ≤ k := by omega
                  have HQ := Lib.hid hq.out
                  rw [hx2] at HQ
                  have hxs := (bs_size0 (x := x))
                  have hxl : x.length ≤ 4194304 := by have := HSL.out x (List.mem_of_getElem? hx1); omega
                  obtain ⟨xb, hxb⟩ : ∃ xb, xb = bs x := ⟨_, rfl⟩
                  rw [← hxb] at s0 hxs
                  have HXB := Lib.hid hxb
                  have HSV : Hid ((L.map (fun x => Value.string (bs x))).toArray[k]? = some (Value.string xb)) := Lib.hid (by rw [hxb]; simp [hx1])
                  clear hx1 hx2 hxb hq
                  by_cases hk1 : 0 < k
                  · have hki : (0 : Int) < k := by omega
                    rw [stepV1 hk1] at HQ
                    have hpl2 := HP2.out.len
                    go_wp2_with (at_builtin; refine wpList_append_row _ rfl (.tmp 102) (.tmp 104) 53 rfl W.heap.size 56 i0 (.agg #[.string ⟨#[]⟩, .bool false]) 2 24 Tryd.underlying53 hi hz0 hz1 hz2 rfl (by decide) (.slice PA2 pn2 pc2) pn2 (P2.flatMap Pc.cells) rfl (HP2.out.row.alloc _) (wr.heap.size + 1) (some ⟨wr.heap.size, 0, none⟩) 1 1 (Pc.cells ⟨ByteArray.empty, true⟩) rfl (reads_cells wr (Pc.cells ⟨ByteArray.empty, true⟩) 56 rfl) (pc_oneCell _) (by unfold maxLen; omega) (by omega) (by have := HP2.out.bel.size; simp; omega) ?_)
                    intro PA3 pc3 w3 hr3 hg3 ho3
                    obtain ⟨pn3, hpn3⟩ : ∃ k, k = pn2 + 1 := ⟨_, rfl⟩
                    rw [← hpn3] at hr3 ho3 ⊢
                    have HP3 := Lib.hid (show PcSt W w3 PA3 pn3 pc3 (P2 ++ [⟨ByteArray.empty, true⟩]) by rw [hpn3] at hr3 ⊢; exact HP2.out.app hr3 hg3)
                    have HB3 := Lib.hid (HB2.out.app hg3 ho3)
                    have HS3 := Lib.hid (HS2.out.app hg3 ho3)
                    obtain ⟨P3, hP3⟩ : ∃ P, P = P2 ++ [⟨ByteArray.empty, true⟩] := ⟨_, rfl⟩
                    rw [← hP3] at HP3
                    have HPE3 := Lib.hid hP3
                    clear hr3 hg3 ho3 hP3 hpn3
                    have s3 := (HS3.out.1.cell k).trans (show _ = some (Value.string xb) from HSV.out)
                    have hgsl3 := HS3.out.1.lt
                    have hgpl3 := HB3.out.1.lt
                    have hgpl3' : gp < w3.heap.size := hgpl3
                    clear s0 p1 hgsl hgpl HP2 HB2 HS2
                    by_cases hxe : x = []
                    · have hne := bytes_none (O := xb) (by rw [hxs, hxe]; rfl)
                      have HQ3 : Hid (X = P3 ++ pcsV (k + 1) (L.drop (k + 1))) := Lib.hid (by rw [HQ.out, hxe, pc1_none, HPE3.out]; simp)
                      clear hxe
                      go_wp2
                      go_roundw
                      case rel => exact ⟨k + 1, PA3, pn3, pc3, P3, by omega, rfl, by go_num, HQ3, HP3, HB3, HS3⟩
                      case measure => simp [intOf]; omega
                    · have hne := bytes_some (O := xb) (by rw [hxs]; intro h; exact hxe (List.eq_nil_of_length_eq_zero h))
                      rw [pc1_some hxe, ← HXB.out] at HQ
                      clear hxe
                      have hpn3l : pn3 ≤ X.length := by rw [← HP3.out.len, HQ.out, HPE3.out]; simp <;> omega
                      go_wp2_with (at_builtin; refine wpList_append_row _ rfl (.tmp 112) (.tmp 115) 53 rfl W.heap.size 56 i0 (.agg #[.string ⟨#[]⟩, .bool false]) 2 24 Tryd.underlying53 hi hz0 hz1 hz2 rfl (by decide) (.slice PA3 pn3 pc3) pn3 (P3.flatMap Pc.cells) rfl (HP3.out.row.alloc _) (w3.heap.size + 1) (some ⟨w3.heap.size, 0, none⟩) 1 1 (Pc.cells ⟨xb, false⟩) rfl (reads_cells w3 (Pc.cells ⟨xb, false⟩) 56 rfl) (pc_oneCell _) (by unfold maxLen; omega) (by omega) (by have := HP3.out.bel.size; simp; omega) ?_)
                      intro PA4 pc4 w4 hr4 hg4 ho4
                      obtain ⟨pn4, hpn4⟩ : ∃ k, k = pn3 + 1 := ⟨_, rfl⟩
                      rw [← hpn4] at hr4 ho4 ⊢
                      have HP4 := Lib.hid (show PcSt W w4 PA4 pn4 pc4 (P3 ++ [⟨xb, false⟩]) by rw [hpn4] at hr4 ⊢; exact HP3.out.app hr4 hg4)
                      have HB4 := Lib.hid (HB3.out.app hg4 ho4)
                      have HS4 := Lib.hid (HS3.out.app hg4 ho4)
                      obtain ⟨P4, hP4⟩ : ∃ P, P = P3 ++ [⟨xb, false⟩] := ⟨_, rfl⟩
                      rw [← hP4] at HP4
                      have HPE4 := Lib.hid hP4
                      clear hr4 hg4 ho4 hP4 hpn4
                      have HQ4 : Hid (X = P4 ++ pcsV (k + 1) (L.drop (k + 1))) := Lib.hid (by rw [HQ.out, HPE4.out, HPE3.out]; simp)
                      go_wp2
                      go_roundw
                      case rel => exact ⟨k + 1, PA4, pn4, pc4, P4, by omega, rfl, by go_num, HQ4, HP4, HB4, HS4⟩
                      case measure => simp [intOf]; omega
                  · obtain rfl : k = 0 := by omega
                    rw [stepV0] at HQ
                    by_cases hxe : x = []
                    · have hne := bytes_none (O := xb) (by rw [hxs, hxe]; rfl)
                      have HQ3 : Hid (X = P2 ++ pcsV (0 + 1) (L.drop (0 + 1))) := Lib.hid (by rw [HQ.out, hxe, pc1_none]; simp)
                      clear hxe
                      go_wp2
                      go_roundw
                      case rel => exact ⟨0 + 1, PA2, pn2, pc2, P2, by omega, rfl, by go_num, HQ3, HP2, HB2, HS2⟩
                      case measure => simp [intOf]; omega
                    · have hne := bytes_some (O := xb) (by rw [hxs]; intro h; exact hxe (List.eq_nil_of_length_eq_zero h))
                      rw [pc1_some hxe, ← HXB.out] at HQ
                      clear hxe
                      go_wp2_with (at_builtin; refine wpList_append_row _ rfl (.tmp 112) (.tmp 115) 53 rfl W.heap.size 56 i0 (.agg #[.string ⟨#[]⟩, .bool false]) 2 24 Tryd.underlying53 hi hz0 hz1 hz2 rfl (by decide) (.slice PA2 pn2 pc2) pn2 (P2.flatMap Pc.cells) rfl (HP2.out.row.alloc _) (wr.heap.size + 1) (some ⟨wr.heap.size, 0, none⟩) 1 1 (Pc.cells ⟨xb, false⟩) rfl (reads_cells wr (Pc.cells ⟨xb, false⟩) 56 rfl) (pc_oneCell _) (by unfold maxLen; omega) (by omega) (by have := HP2.out.bel.size; simp; omega) ?_)
                      intro PA3 pc3 w3 hr3 hg3 ho3
                      obtain ⟨pn3, hpn3⟩ : ∃ k, k = pn2 + 1 := ⟨_, rfl⟩
                      rw [← hpn3] at hr3 ho3 ⊢
                      have HP3 := Lib.hid (show PcSt W w3 PA3 pn3 pc3 (P2 ++ [⟨xb, false⟩]) by rw [hpn3] at hr3 ⊢; exact HP2.out.app hr3 hg3)
                      have HB3 := Lib.hid (HB2.out.app hg3 ho3)
                      have HS3 := Lib.hid (HS2.out.app hg3 ho3)
                      obtain ⟨P3, hP3⟩ : ∃ P, P = P2 ++ [⟨xb, false⟩] := ⟨_, rfl⟩
                      rw [← hP3] at HP3
                      have HPE3 := Lib.hid hP3
                      clear hr3 hg3 ho3 hP3 hpn3
                      have HQ3 : Hid (X = P3 ++ pcsV (0 + 1) (L.drop (0 + 1))) := Lib.hid (by rw [HQ.out, HPE3.out]; simp)
                      go_wp2
                      go_roundw
                      case rel => exact ⟨0 + 1, PA3, pn3, pc3, P3, by omega, rfl, by go_num, HQ3, HP3, HB3, HS3⟩
                      case measure => simp [intOf]; omega
            · obtain ⟨m', rfl⟩ : ∃ m', m = m' + 1 := ⟨m - 1, by omega⟩
              obtain rfl : i = (m' : Int) := by omega
              obtain ⟨bv, ov, rfl, hbv, hmv, hcv⟩ := RS.at_ (cl := Vr.cells) (s := 2) Vr.len Vr.zero H0.out.vs (show m' < vn by omega)
              have y0 := (HP.out.bel.cell (p := ⟨bv, ov + m' * 2 + 0, none⟩) (show bv < W.heap.size by omega)).trans (hcv 0 _ rfl)
              have y1 := (HP.out.bel.cell (p := ⟨bv, ov + m' * 2 + 1, none⟩) (show bv < W.heap.size by omega)).trans (hcv 1 _ rfl)
              have HDR := Lib.hid (drop_vr (vars := vars) (show m' < vars.length by omega))
              clear hcv hmv hi' hm0
              generalize vars.getD m' Vr.zero = v at *
              obtain ⟨vn', vv⟩ := v
              dsimp only at y0 y1
              rw [Nat.add_zero] at y0
              have hkm : (m' : Int) < vn := by omega
              have hkm0 : (0 : Int) ≤ m' := by omega
              cases hx : (vn'.toList == pt.toList) with
              | true =>
                have hV := Lib.hid ((show valF (vars.drop m') pt = vv from by rw [HDR.out]; exact valF_hit (by rw [← Lib.toList_data, ← Lib.toList_data]; exact hx)))
                go_wp2_with fail
                refine wp_region_quiet_lit (by kernel_rfl) (by kernel_rfl) ?_
                repeat (go_big_quiet_step (fail))
                refine wpQuiet_nil ?_
                rintro w6 ⟨kn, rfl⟩
                have HP6 := Lib.hid (HP.out.drewN kn)
                have HB6 := Lib.hid (show Bk (wr.drewN kn) PA pn pc gp #[.string pt, .bool true, .bool pq] 49 from HB.out)
                go_wp2
                go_roundw
                case rel => exact ⟨m', (m' : Int) - 1, by omega, rfl, by go_num, by rw [hV.out], HP6, HB6⟩
                case measure => simp [intOf] <;> omega
              | false =>
                have hV := Lib.hid ((show valF (vars.drop m') pt = valF (vars.drop (m' + 1)) pt from by rw [HDR.out]; exact valF_miss (by rw [← Lib.toList_data, ← Lib.toList_data]; exact hx)))
                go_wp2_with fail
                refine wp_region_quiet_lit (by kernel_rfl) (by kernel_rfl) ?_
                repeat (go_big_quiet_step (fail))
                refine wpQuiet_nil ?_
                rintro w6 ⟨kn, rfl⟩
                have HP6 := Lib.hid (HP.out.drewN kn)
                have HB6 := Lib.hid (show Bk (wr.drewN kn) PA pn pc gp #[.string pt, .bool true, .bool pq] 49 from HB.out)
                go_wp2
                go_roundw
                case rel => exact ⟨m', (m' : Int) - 1, by omega, rfl, by go_num, by rw [hV.out], HP6, HB6⟩
                case measure => simp [intOf] <;> omega
end Go.Proofs.YtopkcanfiefmaaaDoor
