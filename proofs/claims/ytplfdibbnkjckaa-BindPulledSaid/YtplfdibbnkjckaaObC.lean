/- Contract of ringref4.ObjFault. -/
import Derived.Test.YtplfdibbnkjckaaObB
import Derived.Laws.Bits128
namespace Go.Proofs.Ytplfdibbnkjckaa
open Go.RowKit
set_option maxHeartbeats 400000
set_option linter.unusedVariables false
set_option linter.unusedSimpArgs false
theorem i64_and3 (n : Int) : bits .and .i64 n 3 = n % 4 := by
  have h3 : (BitVec.ofInt 64 3).toNat = 2 ^ 2 - 1 := by decide
  have key : (BitVec.ofInt 64 n &&& BitVec.ofInt 64 3).toNat = (n % ((2 ^ 64 : Nat) : Int)).toNat % 2 ^ 2 := by
    rw [BitVec.toNat_and, BitVec.toNat_ofInt, h3, Nat.and_two_pow_sub_one_eq_mod]
  show IntKind.i64.wrap ((BitVec.ofInt 64 n &&& BitVec.ofInt 64 3).toNat : Nat) = n % 4
  rw [key, IntKind.wrap_i64]
  omega
theorem zero3 (w : World) : (zeroValue 3).run Try.prog w = .ok (.int .i64 0) w := by kernel_rfl
theorem asmName_is {b : Bool} (s : ByteArray) (w : World) (hs : s.size ≤ 9223372036854775807) (h : nameB (nums s) = b) : Calls Try.prog 23 #[.string s] w (fun e w' => e = .returned (.bool b) ∧ Below w.heap.size w w') := h ▸ asmName_any s w hs
theorem key_eq {s t : ByteArray} : (s.toList == t.toList) = decide (s.data.toList = t.data.toList) := by
  rw [ByteArray.toList_eq, ByteArray.toList_eq, Bool.eq_iff_iff]; simp
theorem keys_not {ns : List Nm} {k : Nat} {key : List UInt8} (h : ∀ i, i < k → (ns.getD i .zero).key ≠ key) : (keysTo ns k).contains key = false := by
  unfold keysTo
  rw [Bool.eq_false_iff]
  intro hc
  have hc' : key ∈ (ns.take k).map Nm.key := by simpa using hc
  obtain ⟨x, hx, e⟩ := List.mem_map.1 hc'
  obtain ⟨i, hi, rfl⟩ := List.mem_iff_getElem.1 hx
  rw [List.length_take] at hi
  refine h i (by omega) ?_
  rw [← e, List.getElem_take]
  simp [List.getD, List.getElem?_eq_getElem (by omega : i < ns.length)]
theorem keys_has {ns : List Nm} {k i : Nat} {key : List UInt8} (hi : i < k) (hn : i < ns.length) (h : (ns.getD i .zero).key = key) : (keysTo ns k).contains key = true := by
  unfold keysTo
  have : key ∈ (ns.take k).map Nm.key := by
    refine List.mem_map.2 ⟨ns[i], ?_, by rw [← h]; simp [List.getD, List.getElem?_eq_getElem hn]⟩
    rw [List.mem_iff_getElem]
    exact ⟨i, by rw [List.length_take]; omega, by rw [List.getElem_take]⟩
  simpa using this
theorem Blk.grow' {w w' : World} {g : Nat} {cs : Array Value} {t : TypeId} (h : Blk w g cs t) (hb : Below w.heap.size w w') : Blk w' g cs t := h.fr (Fr.of_grow hb) (fun h => h)
theorem nxt {p : Nat → Prop} {k : Nat} (h : ∀ j, j < k → p j) (hk : p k) : ∀ j, j < k + 1 → p j := fun j hj => by
  rcases Nat.lt_or_ge j k with hjk | hjk
  · exact h j hjk
  · obtain rfl : j = k := by omega
    exact hk
set_option maxRecDepth 100000 in
theorem fault_big (o : Ob) (w : World) (B : Nat) (h : o.Read w B) (hb : 128 < o.n0 ∨ 256 < o.n1 ∨ 24 < o.n2 ∨ 40 < o.n3) : Calls Try.prog 16 #[.agg o.vals] w (ErrPost w (objErr o)) := by
  have H := Lib.hid (obj_big hb)
  obtain ⟨A0, n0, c0, A1, n1, c1, A2, n2, c2, A3, n3, c3, ns, ds⟩ := o
  dsimp only at hb
  obtain ⟨_, _, m0, m1, m2, m3⟩ := h
  dsimp only at m0 m1 m2 m3
  unfold Ob.vals
  by_cases h0 : 128 < n0
  · go_enter Try.func16, Try.ntmps16
    go_wp2
    go_ret
    exact ⟨ob_int H.out.symm, (Below.refl _ _).alloc (Nat.le_refl _) _⟩
  by_cases h1 : 256 < n1
  · go_enter Try.func16, Try.ntmps16
    go_wp2
    go_ret
    exact ⟨ob_int H.out.symm, (Below.refl _ _).alloc (Nat.le_refl _) _⟩
  by_cases h2 : 24 < n2
  · go_enter Try.func16, Try.ntmps16
    go_wp2
    go_ret
    exact ⟨ob_int H.out.symm, (Below.refl _ _).alloc (Nat.le_refl _) _⟩
  have h3 : 40 < n3 := by omega
  go_enter Try.func16, Try.ntmps16
  go_wp2
  go_ret
  exact ⟨ob_int H.out.symm, (Below.refl _ _).alloc (Nat.le_refl _) _⟩
set_option maxHeartbeats 8000000 in
set_option maxRecDepth 100000 in
theorem fault_any (o : Ob) (w : World) (B : Nat) (h : o.Read w B) (hB : B ≤ w.heap.size) (hc2 : o.n2 ≤ o.c2) (hc2' : o.c2 ≤ 9223372036854775807) : Calls Try.prog 16 #[.agg o.vals] w (ErrPost w (objErr o)) := by
  by_cases hbig : 128 < o.n0 ∨ 256 < o.n1 ∨ 24 < o.n2 ∨ 40 < o.n3
  · exact fault_big o w B h hbig
  have hob : Hid (Blk (w.alloc (.cells o.vals 37)) w.heap.size o.vals 37) := Lib.hid (Blk.new _ _ _)
  have HO : Hid (objErr o = if nmsErr o.n0 o.n1 [] o.ns = 0 then ndsErr o.n0 (-1) o.ds else nmsErr o.n0 o.n1 [] o.ns) := Lib.hid (by unfold objErr; rw [if_neg hbig])
  obtain ⟨A0, n0, c0, A1, n1, c1, A2, n2, c2, A3, n3, c3, ns, ds⟩ := o
  obtain ⟨rn, rd, m0, m1, m2, m3⟩ := h
  dsimp only at rn rd m0 m1 m2 m3 hbig hc2 hc2'
  dsimp only [Ob.vals] at hob HO ⊢
  have HLN := Lib.hid rn.len
  have HLD := Lib.hid rd.len
  have h0 : n0 ≤ 128 := by omega
  have h1 : n1 ≤ 256 := by omega
  have h2 : n2 ≤ 24 := by omega
  have h3 : n3 ≤ 40 := by omega
  clear hbig
  obtain ⟨l4, hl4⟩ : ∃ l4 : Int, 4 * (n0 : Int) = l4 := ⟨_, rfl⟩
  have HL4 := Lib.hid hl4
  have hl40 : 0 ≤ l4 ∧ l4 ≤ 512 := by omega
  have hw4 : IntKind.i64.wrap (4 * (n0 : Int)) = l4 := (IntWalk.i64_in _ (by omega)).trans hl4
  have hl4w : (Lit.int .i64 l4).wf = true := by simp [Lit.wf, IntKind.min, IntKind.max, IntKind.signed, IntKind.bits]; omega
  have hn1w : (Lit.int .i64 (n1 : Int)).wf = true := by simp [Lit.wf, IntKind.min, IntKind.max, IntKind.signed, IntKind.bits]; omega
  have HL4W := Lib.hid hl4w
  have HN1W := Lib.hid hn1w
  clear hl4w hn1w
  have hmm := @run_makeMap Try.prog
  go_enter Try.func16, Try.ntmps16
  go_wp2
  go_loopw [38] (fun i wr => ∃ k : Nat, k ≤ n2 ∧ i = .int .i64 k ∧ Hid (nmsErr n0 n1 [] ns = nmsErr n0 n1 (keysTo ns k) (ns.drop k)) ∧ Hid (Blk wr w.heap.size #[.slice A0 n0 c0, .slice A1 n1 c1, .slice A2 n2 c2, .slice A3 n3 c3] 37) ∧ Below w.heap.size w wr) (fun i _ => n2 - (intOf i).toNat)
  case atStart => exact ⟨0, by omega, rfl, Lib.hid rfl, hob, (Below.refl _ _).alloc (Nat.le_refl _) _⟩
  case round =>
    clear hob
    obtain ⟨k, hk, rfl, hrest, hblk, hbw⟩ := hrel
    have hsize := hbw.size
    by_cases hlt : k < n2
    · obtain ⟨b, o, rfl, hb, hfine, z0, z1, z2, z3⟩ := (rn.below' hbw hB).at_ hlt
      have hst := Lib.hid (hrest.out.trans (nms_step (ns := ns) (k := k) (by rw [HLN.out]; exact hlt)))
      have hcells := (hblk.out).cell
      have hcb := hblk.out.lt
      have hbb : b < wr.heap.size := by omega
      generalize hgx : ns.getD k .zero = x at *
      have HGX := Lib.hid hgx
      clear hgx
      obtain ⟨s, wh, ad, wk⟩ := x
      obtain ⟨hs, hwh, had⟩ := hfine
      dsimp only at hs hwh had z0 z1 z2 z3
      have hadr := i64_range had
      have hbn : Below w.heap.size w (wr.alloc (.cells #[.string s, .int .i64 wh, .int .i64 ad, .bool wk] 39)) := hbw.alloc hsize _
      have hblkn := (hblk.out.alloc (.cells #[.string s, .int .i64 wh, .int .i64 ad, .bool wk] 39))
      have hnb0 := Blk.new wr #[.string s, .int .i64 wh, .int .i64 ad, .bool wk] 39
      have hmap0 : IntMap Try.prog ((wr.alloc (.cells #[.string s, .int .i64 wh, .int .i64 ad, .bool wk] 39)).alloc (.map #[] 0)) 3 3 (wr.heap.size + 1) 0 (fun _ => none) := by have := IntMap.made Try.prog (wr.alloc (.cells #[.string s, .int .i64 wh, .int .i64 ad, .bool wk] 39)) 3 3; simp at this; exact this
      obtain ⟨w1, hrun1, hmap1, hg1⟩ := hmap0.update Try.underlying3 Try.underlying3 Try.underlying54 (by unfold maxLen; omega) (x := 1) (y := l4) (by decide) HL4W.out
      obtain ⟨w2, hrun2, hmap2, hg2⟩ := hmap1.update Try.underlying3 Try.underlying3 Try.underlying54 (by unfold maxLen; omega) (x := 2) (y := (n1 : Int)) (by decide) HN1W.out
      have hlk := hmap2.run_lookup_ok Try.underlying3 Try.underlying3 Try.underlying54 (zero3 _) hwh
      have hblk1 := (hblkn.alloc (.map #[] 0)).grown hg1 (by simp; omega)
      have hnb1 := (hnb0.alloc (.map #[] 0)).grown hg1 (by simp)
      have hb1 : Below w.heap.size w w1 := (hbn.alloc hbn.size _).grown hg1 (by have := hbn.size; simp at this ⊢; omega) (fun k hk => by injection hk with hk; omega)
      have hsz1 : wr.heap.size + 2 ≤ w1.heap.size := by have := hg1.size; simpa using this
      have hblk2 := hblk1.grown hg2 (by simp; omega)
      have hnb2 := hnb1.grown hg2 (by simp)
      have hb2 : Below w.heap.size w w2 := hb1.grown hg2 hb1.size (fun k hk => by injection hk with hk; omega)
      have hsz2 : wr.heap.size + 2 ≤ w2.heap.size := Nat.le_trans hsz1 hg2.size
      have hc1 := hblk1.cell
      have hc2x := hblk2.cell
      have hcn2 := hnb2.cell
      have HB2 := Lib.hid hblk2
      have HN2 := Lib.hid hnb2
      have HBB2 := Lib.hid hb2
      clear hg1 hg2 hmap0 hmap1 hmap2 hnb0 hnb1 hblk1 hblkn hbn hb1 hb2 hblk2 hnb2 hblk hbw hrest
      have bad : Hid (nmB n0 n1 ⟨s, wh, ad, wk⟩ = false → objErr ⟨A0, n0, c0, A1, n1, c1, some ⟨b, o, none⟩, n2, c2, A3, n3, c3, ns, ds⟩ = 3) := Lib.hid (fun hh => by rw [HO.out, hst.out, hh]; simp)
      have handm := i64_and3 ad
      cases hnb : nameB (nums s) with
      | false =>
        have HNB := Lib.hid hnb
        have e := Lib.hid (bad.out (by unfold nmB; dsimp only; rw [hnb]; rfl))
        clear hnb
        as_aux_lemma =>
          go_wp2_with (go_at_call 23; refine (asmName_is s _ hs HNB.out).mono ?_; rintro e w3 ⟨rfl, hb3⟩; have hblk3 := Blk.grow' HB2.out hb3; have hnb3 := Blk.grow' HN2.out hb3; have hc3 := hblk3.cell; have hcn3 := hnb3.cell; have hbw3 := HBB2.out.trans (hb3.mono HBB2.out.size); have hsz3 := hb3.size)
          all_goals
            go_ret
            exact ⟨ob_int e.out.symm, hbw3⟩
      | true =>
        have HNB := Lib.hid hnb
        by_cases cw1 : wh = 1
        · subst cw1
          simp at hlk
          have HNB' := HNB
          by_cases p1 : ad < 0
          · have e := Lib.hid (bad.out (by unfold nmB sizeI; dsimp only; rw [hnb]; simp; omega))
            clear hnb
            as_aux_lemma =>
              go_wp2_with (go_at_call 23; refine (asmName_is s _ hs HNB.out).mono ?_; rintro e w3 ⟨rfl, hb3⟩; have hblk3 := Blk.grow' HB2.out hb3; have hnb3 := Blk.grow' HN2.out hb3; have hc3 := hblk3.cell; have hcn3 := hnb3.cell; have hbw3 := HBB2.out.trans (hb3.mono HBB2.out.size); have hsz3 := hb3.size)
              all_goals
                go_ret
                exact ⟨ob_int e.out.symm, hbw3⟩
          have dp1 : decide (ad < 0) = false := by simpa using p1
          by_cases p2 : l4 < ad
          · have e := Lib.hid (bad.out (by unfold nmB sizeI; dsimp only; rw [hnb]; simp; omega))
            clear hnb
            as_aux_lemma =>
              go_wp2_with (go_at_call 23; refine (asmName_is s _ hs HNB.out).mono ?_; rintro e w3 ⟨rfl, hb3⟩; have hblk3 := Blk.grow' HB2.out hb3; have hnb3 := Blk.grow' HN2.out hb3; have hc3 := hblk3.cell; have hcn3 := hnb3.cell; have hbw3 := HBB2.out.trans (hb3.mono HBB2.out.size); have hsz3 := hb3.size)
              all_goals
                go_ret
                exact ⟨ob_int e.out.symm, hbw3⟩
          have dp2 : decide (l4 < ad) = false := by simpa using p2
          by_cases p4 : ad % 4 = 0
          rotate_left
          · have e := Lib.hid (bad.out (by unfold nmB sizeI; dsimp only; rw [hnb]; simp; omega))
            have d4 : (ad % 4 != 0) = true := by simpa using p4
            clear hnb p4
            as_aux_lemma =>
              go_wp2_with (go_at_call 23; refine (asmName_is s _ hs HNB.out).mono ?_; rintro e w3 ⟨rfl, hb3⟩; have hblk3 := Blk.grow' HB2.out hb3; have hnb3 := Blk.grow' HN2.out hb3; have hc3 := hblk3.cell; have hcn3 := hnb3.cell; have hbw3 := HBB2.out.trans (hb3.mono HBB2.out.size); have hsz3 := hb3.size)
              all_goals
                go_ret
                exact ⟨ob_int e.out.symm, hbw3⟩
          have d4 : (ad % 4 != 0) = false := by simpa using p4
          have goodB : Hid (nmB n0 n1 ⟨s, 1, ad, wk⟩ = true) := Lib.hid (by unfold nmB sizeI; dsimp only; rw [hnb]; simp; omega)
          clear hnb
          clear p4
          as_aux_lemma =>
            go_wp2_with (go_at_call 23; refine (asmName_is s _ hs HNB.out).mono ?_; rintro e w3 ⟨rfl, hb3⟩; have hblk3 := Blk.grow' HB2.out hb3; have hnb3 := Blk.grow' HN2.out hb3; have hc3 := hblk3.cell; have hcn3 := hnb3.cell; have hbw3 := HBB2.out.trans (hb3.mono HBB2.out.size); have hsz3 := hb3.size)
            clear hc1 hc2x hcn2 hlk hrun1 hrun2 hc3 hcn3 hcells hcb
            generalize wr.heap.size = N1 at *
            go_loopw [94] (fun j wq => ∃ j0 : Nat, j0 ≤ k ∧ j = .int .i64 j0 ∧ Hid (∀ i, i < j0 → (ns.getD i .zero).key ≠ s.data.toList) ∧ Hid (Blk wq w.heap.size #[.slice A0 n0 c0, .slice A1 n1 c1, .slice (some ⟨b, o, none⟩) n2 c2, .slice A3 n3 c3] 37) ∧ Hid (Blk wq N1 #[.string s, .int .i64 1, .int .i64 ad, .bool wk] 39) ∧ Below w.heap.size w wq) (fun j _ => k - (intOf j).toNat)
            case atStart => exact ⟨0, by omega, rfl, Lib.hid (fun i hi => by omega), Lib.hid hblk3, Lib.hid hnb3, hbw3⟩
            case round =>
              clear hblk3 hnb3 hbw3 hsz3 hb3
              obtain ⟨j, hj, rfl, hno, hblk, hnbk, hbq⟩ := hrel
              have hsq := hbq.size
              have hnlt := hnbk.out.lt
              have hcn := hnbk.out.cell
              have hcells := hblk.out.cell
              by_cases hjk : j < k
              · obtain ⟨b', o', eb, hb', hfine', y0, y1, y2, y3⟩ := (rn.below' hbq hB).at_ (i := j) (by omega)
                cases eb
                have hbb' : b < wr.heap.size := by omega
                have hnext := Lib.hid (fun hh => nxt (p := fun i => (ns.getD i .zero).key ≠ s.data.toList) hno.out (k := j) hh)
                have hhas : Hid ((ns.getD j .zero).key = s.data.toList → objErr ⟨A0, n0, c0, A1, n1, c1, some ⟨b, o, none⟩, n2, c2, A3, n3, c3, ns, ds⟩ = 5) := Lib.hid (fun hh => by have hk5 : (keysTo ns k).contains (Nm.key ⟨s, 1, ad, wk⟩) = true := keys_has hjk (by rw [HLN.out]; omega) hh; rw [HO.out, hst.out, goodB.out, hk5]; simp)
                generalize ns.getD j .zero = x at *
                obtain ⟨s', wh', ad', wk'⟩ := x
                dsimp only at y0 y1 y2 y3
                have hke := key_eq (s := s') (t := s)
                have hbq2 : Below w.heap.size w (wr.alloc (.cells #[.string s', .int .i64 wh', .int .i64 ad', .bool wk'] 39)) := hbq.alloc hsq _
                have hblk' := Lib.hid (hblk.out.alloc (.cells #[.string s', .int .i64 wh', .int .i64 ad', .bool wk'] 39))
                have hnbk' := Lib.hid (hnbk.out.alloc (.cells #[.string s', .int .i64 wh', .int .i64 ad', .bool wk'] 39))
                by_cases hq : s'.data.toList = s.data.toList
                · rw [decide_eq_true hq] at hke
                  have e := Lib.hid (hhas.out hq)
                  clear hq
                  go_wp2
                  go_ret
                  exact ⟨ob_int e.out.symm, hbq2⟩
                · rw [decide_eq_false hq] at hke
                  have hn2 := Lib.hid (hnext.out hq)
                  clear hq
                  go_wp2
                  go_roundw
                  case rel => exact ⟨j + 1, by omega, by go_num, hn2, hblk', hnbk', hbq2⟩
                  case measure => simp [intOf]; omega
              · obtain rfl : j = k := by omega
                have hk5 : (keysTo ns j).contains (Nm.key ⟨s, 1, ad, wk⟩) = false := keys_not hno.out
                have e : Hid (nmsErr n0 n1 [] ns = nmsErr n0 n1 (keysTo ns (j + 1)) (ns.drop (j + 1))) := Lib.hid (by rw [hst.out, goodB.out, hk5]; simp)
                clear hk5
                go_wp2
                go_roundw
                case rel => exact ⟨j + 1, by omega, by go_num, e, hblk, hbq⟩
                case measure => simp [intOf]; omega
        by_cases cw2 : wh = 2
        · subst cw2
          simp at hlk
          have HNB' := HNB
          by_cases p1 : ad < 0
          · have e := Lib.hid (bad.out (by unfold nmB sizeI; dsimp only; rw [hnb]; simp; omega))
            clear hnb
            as_aux_lemma =>
              go_wp2_with (go_at_call 23; refine (asmName_is s _ hs HNB.out).mono ?_; rintro e w3 ⟨rfl, hb3⟩; have hblk3 := Blk.grow' HB2.out hb3; have hnb3 := Blk.grow' HN2.out hb3; have hc3 := hblk3.cell; have hcn3 := hnb3.cell; have hbw3 := HBB2.out.trans (hb3.mono HBB2.out.size); have hsz3 := hb3.size)
              all_goals
                go_ret
                exact ⟨ob_int e.out.symm, hbw3⟩
          have dp1 : decide (ad < 0) = false := by simpa using p1
          by_cases p2 : (n1 : Int) < ad
          · have e := Lib.hid (bad.out (by unfold nmB sizeI; dsimp only; rw [hnb]; simp; omega))
            clear hnb
            as_aux_lemma =>
              go_wp2_with (go_at_call 23; refine (asmName_is s _ hs HNB.out).mono ?_; rintro e w3 ⟨rfl, hb3⟩; have hblk3 := Blk.grow' HB2.out hb3; have hnb3 := Blk.grow' HN2.out hb3; have hc3 := hblk3.cell; have hcn3 := hnb3.cell; have hbw3 := HBB2.out.trans (hb3.mono HBB2.out.size); have hsz3 := hb3.size)
              all_goals
                go_ret
                exact ⟨ob_int e.out.symm, hbw3⟩
          have dp2 : decide ((n1 : Int) < ad) = false := by simpa using p2
          have goodB : Hid (nmB n0 n1 ⟨s, 2, ad, wk⟩ = true) := Lib.hid (by unfold nmB sizeI; dsimp only; rw [hnb]; simp; omega)
          clear hnb
          as_aux_lemma =>
            go_wp2_with (go_at_call 23; refine (asmName_is s _ hs HNB.out).mono ?_; rintro e w3 ⟨rfl, hb3⟩; have hblk3 := Blk.grow' HB2.out hb3; have hnb3 := Blk.grow' HN2.out hb3; have hc3 := hblk3.cell; have hcn3 := hnb3.cell; have hbw3 := HBB2.out.trans (hb3.mono HBB2.out.size); have hsz3 := hb3.size)
            clear hc1 hc2x hcn2 hlk hrun1 hrun2 hc3 hcn3 hcells hcb
            generalize wr.heap.size = N1 at *
            go_loopw [94] (fun j wq => ∃ j0 : Nat, j0 ≤ k ∧ j = .int .i64 j0 ∧ Hid (∀ i, i < j0 → (ns.getD i .zero).key ≠ s.data.toList) ∧ Hid (Blk wq w.heap.size #[.slice A0 n0 c0, .slice A1 n1 c1, .slice (some ⟨b, o, none⟩) n2 c2, .slice A3 n3 c3] 37) ∧ Hid (Blk wq N1 #[.string s, .int .i64 2, .int .i64 ad, .bool wk] 39) ∧ Below w.heap.size w wq) (fun j _ => k - (intOf j).toNat)
            case atStart => exact ⟨0, by omega, rfl, Lib.hid (fun i hi => by omega), Lib.hid hblk3, Lib.hid hnb3, hbw3⟩
            case round =>
              clear hblk3 hnb3 hbw3 hsz3 hb3
              obtain ⟨j, hj, rfl, hno, hblk, hnbk, hbq⟩ := hrel
              have hsq := hbq.size
              have hnlt := hnbk.out.lt
              have hcn := hnbk.out.cell
              have hcells := hblk.out.cell
              by_cases hjk : j < k
              · obtain ⟨b', o', eb, hb', hfine', y0, y1, y2, y3⟩ := (rn.below' hbq hB).at_ (i := j) (by omega)
                cases eb
                have hbb' : b < wr.heap.size := by omega
                have hnext := Lib.hid (fun hh => nxt (p := fun i => (ns.getD i .zero).key ≠ s.data.toList) hno.out (k := j) hh)
                have hhas : Hid ((ns.getD j .zero).key = s.data.toList → objErr ⟨A0, n0, c0, A1, n1, c1, some ⟨b, o, none⟩, n2, c2, A3, n3, c3, ns, ds⟩ = 5) := Lib.hid (fun hh => by have hk5 : (keysTo ns k).contains (Nm.key ⟨s, 2, ad, wk⟩) = true := keys_has hjk (by rw [HLN.out]; omega) hh; rw [HO.out, hst.out, goodB.out, hk5]; simp)
                generalize ns.getD j .zero = x at *
                obtain ⟨s', wh', ad', wk'⟩ := x
                dsimp only at y0 y1 y2 y3
                have hke := key_eq (s := s') (t := s)
                have hbq2 : Below w.heap.size w (wr.alloc (.cells #[.string s', .int .i64 wh', .int .i64 ad', .bool wk'] 39)) := hbq.alloc hsq _
                have hblk' := Lib.hid (hblk.out.alloc (.cells #[.string s', .int .i64 wh', .int .i64 ad', .bool wk'] 39))
                have hnbk' := Lib.hid (hnbk.out.alloc (.cells #[.string s', .int .i64 wh', .int .i64 ad', .bool wk'] 39))
                by_cases hq : s'.data.toList = s.data.toList
                · rw [decide_eq_true hq] at hke
                  have e := Lib.hid (hhas.out hq)
                  clear hq
                  go_wp2
                  go_ret
                  exact ⟨ob_int e.out.symm, hbq2⟩
                · rw [decide_eq_false hq] at hke
                  have hn2 := Lib.hid (hnext.out hq)
                  clear hq
                  go_wp2
                  go_roundw
                  case rel => exact ⟨j + 1, by omega, by go_num, hn2, hblk', hnbk', hbq2⟩
                  case measure => simp [intOf]; omega
              · obtain rfl : j = k := by omega
                have hk5 : (keysTo ns j).contains (Nm.key ⟨s, 2, ad, wk⟩) = false := keys_not hno.out
                have e : Hid (nmsErr n0 n1 [] ns = nmsErr n0 n1 (keysTo ns (j + 1)) (ns.drop (j + 1))) := Lib.hid (by rw [hst.out, goodB.out, hk5]; simp)
                clear hk5
                go_wp2
                go_roundw
                case rel => exact ⟨j + 1, by omega, by go_num, e, hblk, hbq⟩
                case measure => simp [intOf]; omega
        have d1 : (wh == 1) = false := by simpa using cw1
        have e := Lib.hid (bad.out (by unfold nmB sizeI; dsimp only; rw [hnb]; simp [cw1, cw2]; omega))
        simp [cw1, cw2] at hlk
        clear hnb cw1 cw2
        as_aux_lemma =>
          go_wp2_with (go_at_call 23; refine (asmName_is s _ hs HNB.out).mono ?_; rintro e w3 ⟨rfl, hb3⟩; have hblk3 := Blk.grow' HB2.out hb3; have hnb3 := Blk.grow' HN2.out hb3; have hc3 := hblk3.cell; have hcn3 := hnb3.cell; have hbw3 := HBB2.out.trans (hb3.mono HBB2.out.size); have hsz3 := hb3.size)
          all_goals
            go_ret
            exact ⟨ob_int e.out.symm, hbw3⟩
    · obtain rfl : n2 = k := by omega
      as_aux_lemma =>
      have hz : Hid (nmsErr n0 n1 [] ns = 0) := Lib.hid (by rw [hrest.out, List.drop_eq_nil_of_le (by rw [HLN.out]; exact Nat.le_refl _)]; rfl)
      have HO2 : Hid (objErr ⟨A0, n0, c0, A1, n1, c1, A2, n2, c2, A3, n3, c3, ns, ds⟩ = ndsErr n0 (-1) ds) := Lib.hid (by rw [HO.out, hz.out]; simp)
      have hcells := (hblk.out).cell
      clear hrest HO hz HLN hl4 hmm
      have hcb := hblk.out.lt
      go_wp2
      clear hcells hcb
      obtain ⟨wo, hwo⟩ : ∃ wo : World, wo = wr := ⟨_, rfl⟩
      subst hwo
      go_loopw [10, 108] (fun l i wr => ∃ k : Nat, k ≤ n3 ∧ i = .int .i64 k ∧ l = .int .i64 (lastTo ds k) ∧ Hid (ndsErr n0 (-1) ds = ndsErr n0 (lastTo ds k) (ds.drop k)) ∧ -1 ≤ lastTo ds k ∧ Hid (Blk wr w.heap.size #[.slice A0 n0 c0, .slice A1 n1 c1, .slice A2 n2 c2, .slice A3 n3 c3] 37) ∧ Below w.heap.size w wr) (fun _ i _ => n3 - (intOf i).toNat)
      case atStart => exact ⟨0, by omega, rfl, rfl, Lib.hid rfl, by unfold lastTo; simp, hblk, hbw⟩
      case round =>
        clear hblk hbw
        obtain ⟨k, hk, rfl, rfl, hrest, hlast, hblk, hbw⟩ := hrel
        have hsize := hbw.size
        by_cases hlt : k < n3
        · obtain ⟨b, o, rfl, hb, hfine, z0, z1, z2⟩ := (rd.below' hbw hB).at_ hlt
          have hst := Lib.hid (hrest.out.trans (nds_step (ds := ds) (k := k) (by rw [HLD.out]; exact hlt)))
          have hnl : lastTo ds (k + 1) = (ds.getD k .zero).ad := by unfold lastTo; rw [if_neg (by omega), Nat.add_sub_cancel]
          have HNL := Lib.hid hnl
          clear hnl
          have hcells := (hblk.out).cell
          have hcb := hblk.out.lt
          have hbb : b < wr.heap.size := by omega
          generalize ds.getD k .zero = x at *
          obtain ⟨ad, s, kd⟩ := x
          obtain ⟨hs, had, hkd⟩ := hfine
          dsimp only at hs had hkd z0 z1 z2
          have hadr := i64_range had
          have hbn : Below w.heap.size w (wr.alloc (.cells #[.int .i64 ad, .string s, .int .i64 kd] 41)) := hbw.alloc hsize _
          have hblkn := Lib.hid (hblk.out.alloc (.cells #[.int .i64 ad, .string s, .int .i64 kd] 41))
          have hnb0 := Lib.hid (Blk.new wr #[.int .i64 ad, .string s, .int .i64 kd] 41)
          generalize hla : lastTo ds k = la at *
          have HLA := Lib.hid hla
          clear hla
          have bad : Hid (ndB n0 la ⟨ad, s, kd⟩ = false → ndsErr n0 (-1) ds = 3) := Lib.hid (fun hh => by rw [hst.out, hh]; simp)
          have good : Hid (ndB n0 la ⟨ad, s, kd⟩ = true → ndsErr n0 (-1) ds = ndsErr n0 (lastTo ds (k + 1)) (ds.drop (k + 1))) := Lib.hid (fun hh => by rw [hst.out, hh]; simp)
          clear hrest hblk hst
          have handm := i64_and3 ad
          cases hnb : nameB (nums s) with
          | false =>
            have HNB := Lib.hid hnb
            have e := Lib.hid (bad.out (by unfold ndB; dsimp only; rw [hnb]; rfl))
            clear hnb
            go_wp2_with (go_at_call 23; refine (asmName_is s _ hs HNB.out).mono ?_; rintro e w3 ⟨rfl, hb3⟩; have hblk3 := Blk.grow' hblkn.out hb3; have hnb3 := Blk.grow' hnb0.out hb3; have hc3 := hblk3.cell; have hcn3 := hnb3.cell; have hbw3 := hbn.trans (hb3.mono hbn.size); have hsz3 := hb3.size)
            go_ret
            exact ⟨ob_int (HO2.out.trans e.out).symm, hbw3⟩
          | true =>
            have HNB := Lib.hid hnb
            by_cases q : kd < 1
            · have e := Lib.hid (bad.out (by unfold ndB; dsimp only; rw [hnb, HL4.out]; simp; omega))
              clear hnb
              go_wp2_with (go_at_call 23; refine (asmName_is s _ hs HNB.out).mono ?_; rintro e w3 ⟨rfl, hb3⟩; have hblk3 := Blk.grow' hblkn.out hb3; have hnb3 := Blk.grow' hnb0.out hb3; have hc3 := hblk3.cell; have hcn3 := hnb3.cell; have hbw3 := hbn.trans (hb3.mono hbn.size); have hsz3 := hb3.size)
              go_ret
              exact ⟨ob_int (HO2.out.trans e.out).symm, hbw3⟩
            have dq1 : decide (kd < 1) = false := by simpa using q
            by_cases q : 3 < kd
            · have e := Lib.hid (bad.out (by unfold ndB; dsimp only; rw [hnb, HL4.out]; simp; omega))
              clear hnb
              go_wp2_with (go_at_call 23; refine (asmName_is s _ hs HNB.out).mono ?_; rintro e w3 ⟨rfl, hb3⟩; have hblk3 := Blk.grow' hblkn.out hb3; have hnb3 := Blk.grow' hnb0.out hb3; have hc3 := hblk3.cell; have hcn3 := hnb3.cell; have hbw3 := hbn.trans (hb3.mono hbn.size); have hsz3 := hb3.size)
              go_ret
              exact ⟨ob_int (HO2.out.trans e.out).symm, hbw3⟩
            have dq2 : decide (3 < kd) = false := by simpa using q
            by_cases q4 : ad % 4 = 0
            rotate_left
            · have e := Lib.hid (bad.out (by unfold ndB; dsimp only; rw [hnb, HL4.out]; simp; omega))
              have d4 : (ad % 4 != 0) = true := by simpa using q4
              clear hnb q4
              go_wp2_with (go_at_call 23; refine (asmName_is s _ hs HNB.out).mono ?_; rintro e w3 ⟨rfl, hb3⟩; have hblk3 := Blk.grow' hblkn.out hb3; have hnb3 := Blk.grow' hnb0.out hb3; have hc3 := hblk3.cell; have hcn3 := hnb3.cell; have hbw3 := hbn.trans (hb3.mono hbn.size); have hsz3 := hb3.size)
              go_ret
              exact ⟨ob_int (HO2.out.trans e.out).symm, hbw3⟩
            have d4 : (ad % 4 != 0) = false := by simpa using q4
            by_cases q : l4 ≤ ad
            · have e := Lib.hid (bad.out (by unfold ndB; dsimp only; rw [hnb, HL4.out]; simp; omega))
              clear hnb q4
              go_wp2_with (go_at_call 23; refine (asmName_is s _ hs HNB.out).mono ?_; rintro e w3 ⟨rfl, hb3⟩; have hblk3 := Blk.grow' hblkn.out hb3; have hnb3 := Blk.grow' hnb0.out hb3; have hc3 := hblk3.cell; have hcn3 := hnb3.cell; have hbw3 := hbn.trans (hb3.mono hbn.size); have hsz3 := hb3.size)
              go_ret
              exact ⟨ob_int (HO2.out.trans e.out).symm, hbw3⟩
            have dq5 : decide (l4 ≤ ad) = false := by simpa using q
            by_cases q : ad ≤ la
            · have e := Lib.hid (bad.out (by unfold ndB; dsimp only; rw [hnb, HL4.out]; simp; omega))
              clear hnb q4
              go_wp2_with (go_at_call 23; refine (asmName_is s _ hs HNB.out).mono ?_; rintro e w3 ⟨rfl, hb3⟩; have hblk3 := Blk.grow' hblkn.out hb3; have hnb3 := Blk.grow' hnb0.out hb3; have hc3 := hblk3.cell; have hcn3 := hnb3.cell; have hbw3 := hbn.trans (hb3.mono hbn.size); have hsz3 := hb3.size)
              go_ret
              exact ⟨ob_int (HO2.out.trans e.out).symm, hbw3⟩
            have dq6 : decide (ad ≤ la) = false := by simpa using q
            have e := Lib.hid (good.out (by unfold ndB; dsimp only; rw [hnb, HL4.out]; simp; omega))
            clear hnb q4
            go_wp2_with (go_at_call 23; refine (asmName_is s _ hs HNB.out).mono ?_; rintro e w3 ⟨rfl, hb3⟩; have hblk3 := Blk.grow' hblkn.out hb3; have hnb3 := Blk.grow' hnb0.out hb3; have hc3 := hblk3.cell; have hcn3 := hnb3.cell; have hbw3 := hbn.trans (hb3.mono hbn.size); have hsz3 := hb3.size)
            go_roundw
            case rel => exact ⟨k + 1, by omega, by go_num, by rw [HNL.out], e, by rw [HNL.out]; omega, Lib.hid hblk3, hbw3⟩
            case measure => simp [intOf]; omega
        · obtain rfl : k = n3 := by omega
          have e : Hid (ndsErr n0 (-1) ds = 0) := Lib.hid (by rw [hrest.out, List.drop_eq_nil_of_le (by rw [HLD.out]; exact Nat.le_refl _)]; rfl)
          go_wp2
          go_ret
          exact ⟨ob_int (HO2.out.trans e.out).symm, hbw⟩
end Go.Proofs.Ytplfdibbnkjckaa
