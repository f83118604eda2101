/- Contract of ringref4.BindLacks. -/
import Derived.Test.YtplfdibbnkjckaaLkB
import Derived.Test.YtplfdibbnkjckaaCn
namespace Go.Proofs.Ytplfdibbnkjckaa
open Go.RowKit
set_option maxHeartbeats 400000
set_option linter.unusedVariables false
set_option linter.unusedSimpArgs false
def thS (ks : List (List UInt8)) : ByteArray := ⟨(thereK ks).toArray⟩
theorem thS_snoc (ks : List (List UInt8)) (s : ByteArray) : thS ks ++ ((⟨#[32]⟩ ++ s) ++ ⟨#[32]⟩) = thS (ks ++ [s.data.toList]) := by
  unfold thS
  rw [thereK_app]
  apply ByteArray.ext
  simp [thereK]
theorem thS_size {ks : List (List UInt8)} (h : ∀ k ∈ ks, Good k) {m : Nat} (hm : ks.length ≤ m) : (thS ks).size ≤ 14 * m := by
  have := thereK_len ks (fun k hk => (h k hk).2.2)
  show (thereK ks).toArray.size ≤ _
  simp; omega
/-- Blocks of different types are different. -/
theorem bp_row_blk' {w : World} {base e size n g : Nat} {v : Value} {xs : List Value} {cs : Array Value} {t : TypeId} (h : Row w base e size v n xs) (hb : Blk w g cs t) (ht : e ≠ t) : v.ownBlock ≠ some g := by
  rcases h.2 with ⟨rfl, _⟩ | ⟨g', o, cap, cur, rfl, _, hg, _⟩
  · simp [Value.ownBlock]
  · intro he
    have : g' = g := by simpa [Value.ownBlock] using he
    subst this
    unfold Blk at hb
    rw [hb] at hg
    injection hg with hg
    injection hg with _ hg
    exact ht hg.symm
theorem names_good {os : List Ob} (h : ∀ o ∈ os, GoodOb o) : ∀ x ∈ namesOf os, Good x := by
  intro x hx
  unfold namesOf at hx
  obtain ⟨o, ho, hx⟩ := List.mem_flatMap.1 hx
  obtain ⟨n, hn, rfl⟩ := List.mem_map.1 hx
  exact (h o ho).ns n hn
theorem needs_good {os : List Ob} (h : ∀ o ∈ os, GoodOb o) : ∀ s ∈ needsOf os, Good s.data.toList := by
  intro x hx
  unfold needsOf at hx
  obtain ⟨o, ho, hx⟩ := List.mem_flatMap.1 hx
  obtain ⟨n, hn, rfl⟩ := List.mem_map.1 hx
  exact (h o ho).ds n hn
theorem good_size {s : ByteArray} (h : Good s.data.toList) : s.size ≤ 12 := by
  have := h.2.2
  rw [Array.length_toList] at this; exact this
theorem sub_list (s : ByteArray) : ((⟨#[32]⟩ ++ s) ++ ⟨#[32]⟩ : ByteArray).data.toList = 32 :: s.data.toList ++ [32] := by simp
set_option maxHeartbeats 2000000 in
set_option maxRecDepth 100000 in
theorem bindLacks_any (hchk : ∀ (o : Ob) (w : World) (B : Nat), o.Read w B → B ≤ w.heap.size → o.n2 ≤ o.c2 → o.c2 ≤ 9223372036854775807 → Calls Try.prog 16 #[.agg o.vals] w (ErrPost w (objErr o)))
    (A : Option Addr) (n c : Nat) (os : List Ob) (w : World) (B : Nat) (h : RO w B A n os) (hB : B ≤ w.heap.size) (hn : n ≤ 9223372036854775807) (hv : VarOk w) : Calls Try.prog 5 #[.slice A n c] w (LkPost w os) := by
  obtain ⟨i0, hi, hz0, hz1, hz2⟩ := info_parts infoStr
  have hv0 := hv.1
  have HV := Lib.hid hv
  clear hv
  have HL := Lib.hid h.len
  have HC := Lib.hid (partsFault_any hchk A n c os w B h hB hn)
  unfold ErrPost at HC
  by_cases hE : partsErr os = 0
  rotate_left
  · generalize hEE : partsErr os = E at *
    have e := Lib.hid hEE
    have HE := Lib.hid hE
    have d : (E != 0) = true := by simpa using hE
    clear hE hEE
    go_enter Try.func5, Try.ntmps5
    go_wp2_with fail
    refine HC.out.mono ?_
    rintro e' w3 ⟨rfl, hb3⟩
    go_wp2
    go_ret2
    exact LkPost.bad e.out HE.out hb3
  obtain ⟨hl12, hgood⟩ := parts_good hE
  have HE := Lib.hid hE
  rw [hE] at HC
  have hn12 : n ≤ 12 := by rw [← HL.out]; exact hl12
  have HG := Lib.hid hgood
  have HNN := Lib.hid (names_len hgood (fun o ho => (h.2 o ho).rd.ns.len))
  have HDD := Lib.hid (needs_len hgood (fun o ho => (h.2 o ho).rd.ds.len))
  clear hE hl12 hgood
  go_enter Try.func5, Try.ntmps5
  go_wp2_with fail
  refine HC.out.mono ?_
  rintro e' w3 ⟨rfl, hb3⟩
  have hsz3 := hb3.size
  have h3 : RO w3 B A n os := h.below' hb3 hB
  have HB3 := Lib.hid hb3
  clear HC hb3
  go_wp2
  go_loopw [5, 22] (fun t i wr => ∃ k : Nat, k ≤ n ∧ i = .int .i64 k ∧ t = .string (thS (namesOf (os.take k))) ∧ Below w3.heap.size w3 wr) (fun _ i _ => n - (intOf i).toNat)
  case atStart => exact ⟨0, by omega, rfl, rfl, Below.refl _ _⟩
  case round =>
    obtain ⟨k, hk, rfl, rfl, hbw⟩ := hrel
    have hsw := hbw.size
    by_cases hlt : k < n
    · obtain ⟨b, o, x, rfl, hb, hx, hxd, hfine, z0, z1, z2, z3⟩ := (h3.below' hbw (by omega)).at_ hlt
      have hgx := HG.out x (List.mem_of_getElem? hx)
      have hx2 := hgx.n2
      have HNX := Lib.hid hfine.rd.ns.len
      have HRN := Lib.hid (h3.2 x (List.mem_of_getElem? hx)).rd.ns
      have HSN := Lib.hid (names_snoc hx)
      have hbw1 := hbw.alloc hsw (.cells #[.slice x.A0 x.n0 x.c0, .slice x.A1 x.n1 x.c1, .slice x.A2 x.n2 x.c2, .slice x.A3 x.n3 x.c3] 37)
      have HN0L := Lib.hid (HNN.out k (by rw [HL.out]; omega))
      have HGX := Lib.hid hgx.ns
      have HG0 : Hid (∀ y ∈ namesOf (os.take k), Good y) := Lib.hid (names_good (fun o ho => HG.out o (List.mem_of_mem_take ho)))
      have e0 : namesOf (os.take k) = namesOf (os.take k) ++ (x.ns.take 0).map Nm.key := by simp
      rw [e0]
      obtain ⟨N0, hN0⟩ : ∃ N0, N0 = namesOf (os.take k) := ⟨_, rfl⟩
      rw [← hN0] at HSN HN0L HG0 ⊢
      clear hfine hx hxd hgx hbw hN0 e0
      obtain ⟨A0, n0, c0, A1, n1, c1, A2, n2, c2, A3, n3, c3, ns, ds⟩ := x
      dsimp only at z0 z1 z2 z3 hx2 HNX HRN HSN HGX
      obtain ⟨W4, hW4⟩ : ∃ W4, W4 = wr := ⟨_, rfl⟩
      subst hW4
      dsimp only
      go_wp2
      go_loopw [5, 29] (fun t j wr => ∃ q : Nat, q ≤ n2 ∧ j = .int .i64 q ∧ t = .string (thS (N0 ++ (ns.take q).map Nm.key)) ∧ Below w3.heap.size w3 wr) (fun _ j _ => n2 - (intOf j).toNat)
      case atStart => exact ⟨0, by omega, rfl, by simp, hbw1⟩
      case round =>
        clear hbw1
        obtain ⟨q, hq, rfl, rfl, hbw⟩ := hrel
        have hsw2 := hbw.size
        by_cases hql : q < n2
        rotate_left
        · obtain rfl : q = n2 := by omega
          have hfin : N0 ++ (ns.take q).map Nm.key = namesOf (os.take (k + 1)) := by rw [HSN.out, ← HNX.out, List.take_length]
          rw [hfin]
          clear hfin
          go_wp2
          go_roundw
          case rel => exact ⟨k + 1, by omega, by go_num, rfl, hbw⟩
          case measure => simp [intOf]; omega
        · obtain ⟨b2, o2, rfl, hb2, hfn, y0, y1, y2, y3⟩ := (HRN.out.below' hbw (by omega)).at_ hql
          have hxq : ns[q]? = some (ns.getD q .zero) := by simp [List.getD, List.getElem?_eq_getElem (by rw [HNX.out]; exact hql : q < ns.length)]
          have hgq := HGX.out _ (List.mem_of_getElem? hxq)
          have htk := take_map_snoc Nm.key hxq
          generalize ns.getD q .zero = nm at *
          obtain ⟨s, wh, ad, wk⟩ := nm
          obtain ⟨hs, _, _⟩ := hfn
          dsimp only at y0 y1 y2 y3 hs
          have hs12 : s.size ≤ 12 := good_size hgq
          have hgl : ∀ y ∈ N0 ++ (ns.take q).map Nm.key, Good y := fun y hy => by
            rcases List.mem_append.1 hy with hy | hy
            · exact HG0.out y hy
            · obtain ⟨m, hm, rfl⟩ := List.mem_map.1 hy
              exact HGX.out m (List.mem_of_mem_take hm)
          have hsz := thS_size hgl (m := 330) (by have := HN0L.out; rw [List.length_append, List.length_map, List.length_take]; omega)
          have hnx := Lib.hid (thS_snoc (N0 ++ (ns.take q).map Nm.key) s)
          rw [List.append_assoc, show [s.data.toList] = [Nm.key ⟨s, wh, ad, wk⟩] from rfl, ← htk] at hnx
          have hbw2 := Lib.hid (hbw.alloc hsw2 (.cells #[.string s, .int .i64 wh, .int .i64 ad, .bool wk] 39))
          clear hxq htk hgq hgl hbw
          generalize thS (N0 ++ (ns.take q).map Nm.key) = st at *
          go_wp2
          go_roundw
          case rel => exact ⟨q + 1, by omega, by go_num, by rw [hnx.out], hbw2.out⟩
          case measure => simp [intOf]; omega
    · obtain rfl : k = n := by omega
      have hfull : Hid (os.take k = os) := Lib.hid (by rw [← HL.out, List.take_length])
      rw [hfull.out]
      have hNL := HNN.out k (by rw [HL.out]; exact Nat.le_refl _)
      rw [hfull.out] at hNL
      have HNG := Lib.hid (names_good HG.out)
      obtain ⟨N, hN⟩ : ∃ N, N = namesOf os := ⟨_, rfl⟩
      rw [← hN] at hNL HNG ⊢
      have HN := Lib.hid hN
      have e0 : N = N ++ keysB (lacksGo N (needsOf (os.take 0))) := by simp [needsOf, lacksGo, keysB]
      have hrow0 : Row wr (w3.heap.size + 1) 9 1 (.slice none 0 0) (lacksGo N (needsOf (os.take 0))).length ((lacksGo N (needsOf (os.take 0))).map Value.string) := Row.nil _ _ _ _
      have hrow0 := hrow0.base_le (base' := w3.heap.size) (by omega)
      rw [show thS N = thS (N ++ keysB (lacksGo N (needsOf (os.take 0)))) from congrArg thS e0]
      clear hN e0
      go_wp2
      go_loopw [5, 10, 43] (fun t vo i wr => ∃ k2 : Nat, k2 ≤ k ∧ i = .int .i64 k2 ∧ t = .string (thS (N ++ keysB (lacksGo N (needsOf (os.take k2))))) ∧ Row wr w3.heap.size 9 1 vo (lacksGo N (needsOf (os.take k2))).length ((lacksGo N (needsOf (os.take k2))).map Value.string) ∧ Below w3.heap.size w3 wr) (fun _ _ i _ => k - (intOf i).toNat)
      case atStart => exact ⟨0, by omega, rfl, by simp [needsOf, lacksGo, keysB], hrow0, hbw⟩
      case round =>
        clear hrow0 hbw hsw hlt hk
        obtain ⟨k2, hk, rfl, rfl, hrow, hbw⟩ := hrel
        have hsw := hbw.size
        by_cases hlt : k2 < k
        rotate_left
        · obtain rfl : k2 = k := by omega
          rw [hfull.out] at hrow
          have hfin := Lib.hid (LkPost.good (w := w) HE.out (by rw [← HN.out]; exact hrow.base_le (base' := w.heap.size) (by omega)) (HB3.out.trans (hbw.mono hsz3)))
          generalize thS _ = st at *
          clear hrow hbw
          go_wp2
          go_ret2
          exact hfin.out
        · obtain ⟨b, o, x, rfl, hb, hx, hxd, hfine, z0, z1, z2, z3⟩ := (h3.below' hbw (by omega)).at_ hlt
          have hgx := HG.out x (List.mem_of_getElem? hx)
          have hx3 := hgx.n3
          have HNX := Lib.hid hfine.rd.ds.len
          have HRN := Lib.hid (h3.2 x (List.mem_of_getElem? hx)).rd.ds
          have HSN := Lib.hid (needs_snoc hx)
          have HDL := Lib.hid (HDD.out k2 (by rw [HL.out]; omega))
          have HGX := Lib.hid hgx.ds
          have HG0 : Hid (∀ y ∈ needsOf (os.take k2), Good y.data.toList) := Lib.hid (needs_good (fun o ho => HG.out o (List.mem_of_mem_take ho)))
          have hm3 := hfine.rd.m3
          have hbw1 := hbw.alloc hsw (.cells #[.slice x.A0 x.n0 x.c0, .slice x.A1 x.n1 x.c1, .slice x.A2 x.n2 x.c2, .slice x.A3 x.n3 x.c3] 37)
          have hrow1 := hrow.alloc (.cells #[.slice x.A0 x.n0 x.c0, .slice x.A1 x.n1 x.c1, .slice x.A2 x.n2 x.c2, .slice x.A3 x.n3 x.c3] 37)
          obtain ⟨P0, hP0⟩ : ∃ P0, P0 = needsOf (os.take k2) := ⟨_, rfl⟩
          rw [← hP0] at hrow1 HSN HDL HG0 ⊢
          have e0 : P0 = P0 ++ (x.ds.take 0).map Nd.s := by simp
          rw [e0] at hrow1
          rw [show thS (N ++ keysB (lacksGo N P0)) = thS (N ++ keysB (lacksGo N (P0 ++ (x.ds.take 0).map Nd.s))) from congrArg (fun p => thS (N ++ keysB (lacksGo N p))) e0]
          clear hfine hx hxd hgx hbw hrow hP0 e0
          obtain ⟨A0, n0, c0, A1, n1, c1, A2, n2, c2, A3, n3, c3, ns, ds⟩ := x
          dsimp only at z0 z1 z2 z3 hx3 HNX HRN HSN hm3 HGX
          dsimp only
          obtain ⟨W4, hW4⟩ : ∃ W4, W4 = wr := ⟨_, rfl⟩
          subst hW4
          go_wp2
          go_loopw [5, 10, 50] (fun t vo j wr => ∃ q : Nat, q ≤ n3 ∧ j = .int .i64 q ∧ t = .string (thS (N ++ keysB (lacksGo N (P0 ++ (ds.take q).map Nd.s)))) ∧ Row wr w3.heap.size 9 1 vo (lacksGo N (P0 ++ (ds.take q).map Nd.s)).length ((lacksGo N (P0 ++ (ds.take q).map Nd.s)).map Value.string) ∧ Below w3.heap.size w3 wr) (fun _ _ j _ => n3 - (intOf j).toNat)
          case atStart => exact ⟨0, by omega, rfl, by simp, hrow1, hbw1⟩
          case round =>
            clear hrow1 hbw1
            obtain ⟨q, hq, rfl, rfl, hrow, hbw⟩ := hrel
            have hsw2 := hbw.size
            by_cases hql : q < n3
            rotate_left
            · obtain rfl : q = n3 := by omega
              rw [← HNX.out, List.take_length, ← HSN.out] at hrow
              rw [show P0 ++ (ds.take q).map Nd.s = needsOf (os.take (k2 + 1)) by rw [HSN.out, ← HNX.out, List.take_length]]
              have hbf := Lib.hid hbw
              have hrf := Lib.hid hrow
              clear hbw hrow
              go_wp2
              go_roundw
              case rel => exact ⟨k2 + 1, by omega, by go_num, rfl, hrf.out, hbf.out⟩
              case measure => simp [intOf]; omega
            · obtain ⟨b2, o2, rfl, hb2, hfn, y0, y1, y2⟩ := (HRN.out.below' hbw (by omega)).at_ hql
              have hxq : ds[q]? = some (ds.getD q .zero) := by simp [List.getD, List.getElem?_eq_getElem (by rw [HNX.out]; exact hql : q < ds.length)]
              have hgq := HGX.out _ (List.mem_of_getElem? hxq)
              have htk := take_map_snoc Nd.s hxq
              have hll := lacks_len (P0 ++ (ds.take q).map Nd.s) N
              rw [List.length_append, List.length_map, List.length_take] at hll
              have hd0 := HDL.out
              generalize ds.getD q .zero = nd at *
              obtain ⟨ad, s, kd⟩ := nd
              obtain ⟨hs, _, _⟩ := hfn
              dsimp only at y0 y1 y2 hs htk
              have hgs : Good s.data.toList := hgq
              have hs12 : s.size ≤ 12 := good_size hgs
              have hls := lacksGo_snoc s (P0 ++ (ds.take q).map Nd.s) N
              rw [List.append_assoc, ← htk] at hls
              have HLS := Lib.hid hls
              have hrow1 := hrow.alloc (.cells #[.int .i64 ad, .string s, .int .i64 kd] 41)
              have hbw1 := hbw.alloc hsw2 (.cells #[.int .i64 ad, .string s, .int .i64 kd] 41)
              have hgl : ∀ y ∈ N ++ keysB (lacksGo N (P0 ++ (ds.take q).map Nd.s)), Good y := fun y hy => by
                rcases List.mem_append.1 hy with hy | hy
                · exact HNG.out y hy
                · unfold keysB at hy
                  obtain ⟨m, hm, rfl⟩ := List.mem_map.1 hy
                  rcases List.mem_append.1 (lacks_mem _ _ m hm) with hm | hm
                  · exact HG0.out m hm
                  · obtain ⟨d, hd, rfl⟩ := List.mem_map.1 hm
                    exact HGX.out d (List.mem_of_mem_take hd)
              obtain ⟨Lq, hLq⟩ : ∃ Lq, Lq = lacksGo N (P0 ++ (ds.take q).map Nd.s) := ⟨_, rfl⟩
              rw [← hLq] at hrow1 hll HLS hgl ⊢
              have hLl : Lq.length ≤ 520 := by omega
              have hsz := thS_size hgl (m := 900) (by rw [List.length_append]; unfold keysB; rw [List.length_map]; omega)
              have hnx := Lib.hid (thS_snoc (N ++ keysB Lq) s)
              have hct0 := contains_there hgl hgs
              have HCN := Lib.hid (fun W (hW : VarOk W) => contains_any (thS (N ++ keysB Lq)) ((⟨#[32]⟩ ++ s) ++ ⟨#[32]⟩) W (by omega) hW)
              rw [sub_list, show (thS (N ++ keysB Lq)).data.toList = thereK (N ++ keysB Lq) from rfl, hct0] at HCN
              have HVW := Lib.hid (HV.out.below (HB3.out.trans (hbw1.mono hsz3)) (by omega))
              clear hls hxq htk hrow hbw hLq hgl hct0 hgq hgs
              obtain ⟨st, hst0⟩ : ∃ st, st = thS (N ++ keysB Lq) := ⟨_, rfl⟩
              rw [← hst0] at hsz hnx HCN ⊢
              have HST := Lib.hid hst0
              clear hst0
              cases hct : (N ++ keysB Lq).contains s.data.toList with
              | true =>
                have hst := Lib.hid (show lacksGo N (P0 ++ (ds.take (q + 1)).map Nd.s) = Lq by rw [HLS.out, if_pos hct])
                rw [hct] at HCN
                clear hct
                have HRo := Lib.hid hrow1
                have HBo := Lib.hid hbw1
                clear hrow1 hbw1
                go_wp2_with fail
                refine (HCN.out _ HVW.out).mono ?_
                rintro e' w8 ⟨rfl, rfl⟩
                go_wp2
                go_roundw
                case rel => exact ⟨q + 1, by omega, by go_num, by rw [hst.out, HST.out], by rw [hst.out]; exact HRo.out, HBo.out⟩
                case measure => simp [intOf]; omega
              | false =>
                have hst := Lib.hid (show lacksGo N (P0 ++ (ds.take (q + 1)).map Nd.s) = Lq ++ [s] by rw [HLS.out, if_neg (by rw [hct]; simp)])
                rw [hct] at HCN
                have hkb : keysB (Lq ++ [s]) = keysB Lq ++ [s.data.toList] := by simp [keysB]
                have hbx := Blk.new wr #[.int .i64 ad, .string s, .int .i64 kd] 41
                obtain ⟨w6, hw6⟩ : ∃ w6, w6 = wr.alloc (.cells #[.int .i64 ad, .string s, .int .i64 kd] 41) := ⟨_, rfl⟩
                rw [← hw6] at hbx hbw1 hrow1 HVW
                have HW6 := Lib.hid hw6
                clear hw6
                have hbc := hbx.cell
                have hbl := hbx.lt
                have hs6 := hbw1.size
                have hob := Lib.hid hrow1.lt
                have HKB := Lib.hid hkb
                clear hct hkb
                generalize hlen : Lq.length = ll at *
                have HLEN := Lib.hid hlen
                clear hlen
                obtain ⟨A7, c7, hv7, hc71, hc72⟩ := hrow1.shape
                subst hv7
                have HB6 := Lib.hid hbw1
                have HR6 := Lib.hid hrow1
                clear hbw1 hrow1
                go_wp2_with fail
                rw [← HW6.out]
                refine (HCN.out _ HVW.out).mono ?_
                rintro e' w8 ⟨rfl, rfl⟩
                go_wp2_with (at_builtin; refine wpList_append_row _ rfl (.tmp 61) (.tmp 64) 23 rfl w3.heap.size 9 i0 (.string ByteArray.empty) 1 16 Try.underlying23 hi hz0 hz1 hz2 rfl (by decide) (.slice A7 ll c7) ll (Lq.map Value.string) rfl (HR6.out.alloc _) (w8.heap.size + 1) (some ⟨w8.heap.size, 0, none⟩) 1 1 [.string s] rfl (lk_reads w8 9 1 1 [.string s] rfl) (by simp [Value.oneCell']) (by unfold maxLen; omega) (by omega) (by simp; omega) ?_)
                intro A8 c8 w9 hr8 hg8 ho8
                have hf8 : Fr (fun k => (Value.slice A7 ll c7).ownBlock = some k) w8 w9 := ((Fr.refl _ w8).alloc _).grown hg8 (fun k e _ => e)
                have hb9 := Lib.hid (HB6.out.trans (hf8.below hs6 (fun k e => (hob.out _ e).1)))
                have HR8 := Lib.hid (show Row w9 w3.heap.size 9 1 (.slice A8 (ll + 1) c8) (Lq ++ [s]).length ((Lq ++ [s]).map Value.string) by
                  rw [List.length_append, HLEN.out, List.map_append]; exact hr8)
                have hbx9 := hbx.fr hf8 (fun e => bp_row_blk' HR6.out hbx (by decide) e)
                have hbc9 := hbx9.cell
                have hbl9 := hbx9.lt
                clear hr8 hg8 ho8 hf8 hbc hbx hbx9
                go_wp2
                go_roundw
                case rel => exact ⟨q + 1, by omega, by go_num, by rw [hst.out, HKB.out, hnx.out, List.append_assoc], by rw [hst.out]; exact HR8.out, hb9.out⟩
                case measure => simp [intOf]; omega
end Go.Proofs.Ytplfdibbnkjckaa
