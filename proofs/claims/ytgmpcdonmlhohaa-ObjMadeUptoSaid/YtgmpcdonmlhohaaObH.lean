/- Contract of ringref4.ObjFrom. -/
import Derived.Test.YtgmpcdonmlhohaaObG
import Derived.Test.YtgmpcdonmlhohaaObC
namespace Go.Proofs.Ytgmpcdonmlhohaa
open Go.RowKit
set_option maxHeartbeats 400000
set_option linter.unusedVariables false
set_option linter.unusedSimpArgs false
theorem infoM : (Try.prog.info? 67).map (fun i => (i.zero, i.size, i.bytes)) = some (some (.agg #[.string ByteArray.empty, .int .i64 0]), 2, 24) := by kernel_rfl
theorem one_mk (ms : List Mk) : ∀ u ∈ ms.flatMap Mk.cells, u.oneCell' = true := by
  intro u hu
  obtain ⟨x, _, hx⟩ := List.mem_flatMap.1 hu
  simp only [Mk.cells, List.mem_cons, List.not_mem_nil, or_false] at hx
  rcases hx with rfl | rfl <;> rfl
/-- The object while it is made: its block g, its names; the marks; the unit's box. -/
structure RefSt (w W : World) (g nM : Nat) (v0 v1 vN v3 vM b0 b1 b2 : Value) (ns : List Nm) (all : List Mk) : Prop where
  blk : Blk W g #[v0, v1, vN, v3] 38
  oN : OwnS W w.heap.size 69 4 ns.length vN (ns.flatMap Nm.cells)
  oM : OwnS W w.heap.size 67 2 nM vM (all.flatMap Mk.cells)
  box : Blk W w.heap.size #[b0, b1, b2] 34
  low : w.heap.size + 2 ≤ g
  below : Below w.heap.size w W
  res : Blk W (w.heap.size + 1) zeros38 38
theorem RefSt.grow {w W W' : World} {g nM : Nat} {v0 v1 vN v3 vM b0 b1 b2 : Value} {ns : List Nm} {all : List Mk} (h : RefSt w W g nM v0 v1 vN v3 vM b0 b1 b2 ns all) (hb : Below W.heap.size W W') : RefSt w W' g nM v0 v1 vN v3 vM b0 b1 b2 ns all :=
  ⟨h.blk.fr (Fr.of_grow hb) (fun h => h), h.oN.grow hb, h.oM.grow hb, h.box.fr (Fr.of_grow hb) (fun h => h), h.low, h.below.trans (hb.mono h.below.size), h.res.fr (Fr.of_grow hb) (fun h => h)⟩
theorem RefSt.append {w W W1 : World} {g nM : Nat} {v0 v1 vN v3 vM b0 b1 b2 : Value} {ns : List Nm} {all : List Mk} {A1 : Option Addr} {c1 : Nat} {x : Nm} (h : RefSt w W g nM v0 v1 vN v3 vM b0 b1 b2 ns all)
    (hr : Row W1 w.heap.size 69 4 (.slice A1 (ns.length + 1) c1) (ns.length + 1) (ns.flatMap Nm.cells ++ x.cells)) (hg : W.grownBy W1 vN.ownBlock) :
    RefSt w (W1.setCell ⟨g, 2, none⟩ (.slice A1 (ns.length + 1) c1)) g nM v0 v1 (.slice A1 (ns.length + 1) c1) v3 vM b0 b1 b2 (ns ++ [x]) all := by
  have hN := h.oN.row
  have hfr : Fr (fun k => vN.ownBlock = some k) W W1 := Fr.of_grown hg
  have hblk : Blk W1 g #[v0, v1, vN, v3] 38 := h.blk.fr hfr (fun e => row_blk hN h.blk (by decide) e)
  have hf : Fr (fun k => vN.ownBlock = some k ∨ k = g) W (W1.setCell ⟨g, 2, none⟩ (.slice A1 (ns.length + 1) c1)) := (hfr.mono (fun _ _ e => .inl e)).setCell (p := ⟨g, 2, none⟩) (fun _ => .inr rfl) _
  refine ⟨?_, ⟨A1, c1, ?_, ?_⟩, h.oM.fr hf (fun k hk e => ?_), h.box.fr hf (fun e => ?_), h.low, h.below.trans (hf.below h.below.size (fun k e => by
    rcases e with e | e
    · exact (hN.lt k e).1
    · have := h.low; omega)), ?_⟩
  · have := hblk.set 2 (.slice A1 (ns.length + 1) c1)
    simpa using this
  · simp
  · have hne : (Value.slice A1 (ns.length + 1) c1).ownBlock ≠ some g := row_blk hr hblk (by decide)
    have := hr.setCell (p := ⟨g, 2, none⟩) hne (.slice A1 (ns.length + 1) c1)
    simpa using this
  · rcases e with e | e
    · exact row_row h.oM.row hN (by decide) k hk e
    · exact row_blk h.oM.row h.blk (by decide) (e ▸ hk)
  · rcases e with e | e
    · exact row_blk hN h.box (by decide) e
    · have := h.low; omega
  · refine h.res.fr hf (fun e => ?_)
    rcases e with e | e
    · exact row_blk hN h.res (by decide) e
    · have := h.low; omega
theorem RefSt.done {w W : World} {g nM : Nat} {v0 v1 vN v3 vM b0 b1 b2 a b c d : Value} {ns : List Nm} {all : List Mk} (h : RefSt w W g nM v0 v1 vN v3 vM b0 b1 b2 ns all) : Below w.heap.size w (set4b W (w.heap.size + 1) a b c d) :=
  h.below.trans ((fr4b W (w.heap.size + 1) a b c d).below h.below.size (fun k e => by omega))
theorem RefSt.full {w W w4 : World} {g nM n0 n1 n3 nN c0 c1 cN c3 B : Nat} {A0 A1 AN A3 : Option Addr} {vM b0 b1 b2 : Value} {ws bs : List Int} {ns : List Nm} {ds : List Nd} {all : List Mk}
    (h : RefSt w W g nM (.slice A0 n0 c0) (.slice A1 n1 c1) (.slice AN nN cN) (.slice A3 n3 c3) vM b0 b1 b2 ns all) (hl : ns.length = nN) (hns : ∀ x ∈ ns, x.fine) (hw : RW W B A0 n0 ws) (hb : RB W B A1 n1 bs) (hd : RD W B A3 n3 ds)
    (m0 : n0 ≤ 9223372036854775807) (m1 : n1 ≤ 9223372036854775807) (m2 : nN ≤ 9223372036854775807) (m3 : n3 ≤ 9223372036854775807) (hB : B ≤ w.heap.size) (hf : Fr (fun k => k = w.heap.size + 1) W w4) :
    Ob.Full ⟨A0, n0, c0, A1, n1, c1, AN, nN, cN, A3, n3, c3, ns, ds⟩ w4 w4.heap.size ws bs ∧ Below w.heap.size w w4 := by
  subst hl
  have hbb : Below w.heap.size W w4 := hf.below h.below.size (fun k e => by omega)
  have hsz := hf.size
  have hs2 := h.below.size
  exact ⟨⟨⟨⟨⟨(h.oN.fr hf (fun k hk e => row_blk h.oN.row h.res (by decide) (e ▸ hk))).at_, rfl⟩, hns⟩, (hd.below' hbb hB).more (by omega), m0, m1, m2, m3⟩, Reads.more (hw.below' hbb hB) (by omega), (hb.below' hbb hB).more (by omega)⟩, h.below.trans hbb⟩
def whAt (nm k : Nat) : Int := if k < nm then 1 else 2
/-- The first k names. -/
def refMade (nm : Nat) (all : List Mk) (k : Nat) : List Nm := (List.range k).map fun i => nmOf (whAt nm i) (all.getD i .zero)
theorem refMade_succ (nm : Nat) (all : List Mk) (k : Nat) : refMade nm all (k + 1) = refMade nm all k ++ [nmOf (whAt nm k) (all.getD k .zero)] := by
  unfold refMade; rw [List.range_succ, List.map_append]; rfl
theorem refMade_len (nm : Nat) (all : List Mk) (k : Nat) : (refMade nm all k).length = k := by simp [refMade]
theorem refMade_all (ms ks : List Mk) : refMade ms.length (ms ++ ks) (ms.length + ks.length) = made ms ks := by
  refine List.ext_getElem (by simp [refMade, made]) fun i h1 h2 => ?_
  rw [refMade_len] at h1
  have e1 : (refMade ms.length (ms ++ ks) (ms.length + ks.length))[i]'(by rw [refMade_len]; exact h1) = nmOf (whAt ms.length i) ((ms ++ ks).getD i .zero) := by simp [refMade]
  rw [e1]
  by_cases hi : i < ms.length
  · have e2 : (made ms ks)[i]? = some (nmOf 1 ms[i]) := by
      unfold made
      rw [List.getElem?_append_left (by simpa using hi), List.getElem?_map, List.getElem?_eq_getElem hi]; rfl
    rw [List.getElem?_eq_getElem h2] at e2
    injection e2 with e2
    rw [e2]
    unfold whAt
    rw [if_pos hi]
    simp [List.getD, List.getElem?_append_left hi, List.getElem?_eq_getElem hi]
  · have hj : i - ms.length < ks.length := by omega
    have e2 : (made ms ks)[i]? = some (nmOf 2 ks[i - ms.length]) := by
      unfold made
      rw [List.getElem?_append_right (by simpa using hi), List.getElem?_map]
      simp [List.getElem?_eq_getElem hj]
    rw [List.getElem?_eq_getElem h2] at e2
    injection e2 with e2
    rw [e2]
    unfold whAt
    rw [if_neg hi]
    simp [List.getD, List.getElem?_append_right (by omega : ms.length ≤ i), List.getElem?_eq_getElem hj]
set_option maxHeartbeats 4000000 in
set_option maxRecDepth 100000 in
theorem objFrom_any (A0 Am A3 A1 Ak : Option Addr) (n0 c0 nm cm n3 c3 n1 c1 nk ck : Nat) (ws bs : List Int) (ms ks : List Mk) (ds : List Nd) (w : World) (B : Nat) (hB : B ≤ w.heap.size)
    (hw : RW w B A0 n0 ws) (hm : RM w B Am nm ms) (hd : RD w B A3 n3 ds) (hb : RB w B A1 n1 bs) (hk : RM w B Ak nk ks) (l0 : n0 ≤ 9223372036854775807) (lm : nm + nk ≤ 1099511627776) (l3 : n3 ≤ 9223372036854775807) (l1 : n1 ≤ 9223372036854775807) :
    Calls Try.prog 11 #[.agg #[.slice A0 n0 c0, .slice Am nm cm, .slice A3 n3 c3], .slice A1 n1 c1, .slice Ak nk ck] w (MadePost w ws bs (made ms ks) ds (errOf n0 n1 n3 (made ms ks) ds)) := by
  obtain ⟨iM, hiM, hzM0, hzM1, hzM2⟩ := info_parts infoM
  obtain ⟨iN, hiN, hzN0, hzN1, hzN2⟩ := info_parts infoN
  have HLM := Lib.hid hm.len
  have HLK := Lib.hid hk.len
  have hb0 : Below w.heap.size w (w.alloc (.cells #[.slice A0 n0 c0, .slice Am nm cm, .slice A3 n3 c3] 34)) := (Below.refl _ _).alloc (Nat.le_refl _) _
  have hb1 := hb0.alloc hb0.size (.cells zeros38 38)
  have hb2 := hb1.alloc hb1.size (.cells #[.slice A0 n0 c0, .slice A1 n1 c1, .slice none 0 0, .slice A3 n3 c3] 38)
  have hb3 := hb2.alloc hb2.size (.cells #[] 67)
  have hbox : Blk ((((w.alloc (.cells #[.slice A0 n0 c0, .slice Am nm cm, .slice A3 n3 c3] 34)).alloc (.cells zeros38 38)).alloc (.cells #[.slice A0 n0 c0, .slice A1 n1 c1, .slice none 0 0, .slice A3 n3 c3] 38)).alloc (.cells #[] 67)) w.heap.size #[.slice A0 n0 c0, .slice Am nm cm, .slice A3 n3 c3] 34 := (((Blk.new w _ 34).alloc _).alloc _).alloc _
  have hres : Blk ((((w.alloc (.cells #[.slice A0 n0 c0, .slice Am nm cm, .slice A3 n3 c3] 34)).alloc (.cells zeros38 38)).alloc (.cells #[.slice A0 n0 c0, .slice A1 n1 c1, .slice none 0 0, .slice A3 n3 c3] 38)).alloc (.cells #[] 67)) (w.heap.size + 1) zeros38 38 := by
    have := ((Blk.new (w.alloc (.cells #[.slice A0 n0 c0, .slice Am nm cm, .slice A3 n3 c3] 34)) zeros38 38).alloc (.cells #[.slice A0 n0 c0, .slice A1 n1 c1, .slice none 0 0, .slice A3 n3 c3] 38)).alloc (.cells #[] 67)
    simpa using this
  have hobj : Blk ((((w.alloc (.cells #[.slice A0 n0 c0, .slice Am nm cm, .slice A3 n3 c3] 34)).alloc (.cells zeros38 38)).alloc (.cells #[.slice A0 n0 c0, .slice A1 n1 c1, .slice none 0 0, .slice A3 n3 c3] 38)).alloc (.cells #[] 67)) (w.heap.size + 2) #[.slice A0 n0 c0, .slice A1 n1 c1, .slice none 0 0, .slice A3 n3 c3] 38 := by
    have := (Blk.new ((w.alloc (.cells #[.slice A0 n0 c0, .slice Am nm cm, .slice A3 n3 c3] 34)).alloc (.cells zeros38 38)) #[.slice A0 n0 c0, .slice A1 n1 c1, .slice none 0 0, .slice A3 n3 c3] 38).alloc (.cells #[] 67)
    simpa using this
  have hem : Blk ((((w.alloc (.cells #[.slice A0 n0 c0, .slice Am nm cm, .slice A3 n3 c3] 34)).alloc (.cells zeros38 38)).alloc (.cells #[.slice A0 n0 c0, .slice A1 n1 c1, .slice none 0 0, .slice A3 n3 c3] 38)).alloc (.cells #[] 67)) (w.heap.size + 3) #[] 67 := by
    have := Blk.new (((w.alloc (.cells #[.slice A0 n0 c0, .slice Am nm cm, .slice A3 n3 c3] 34)).alloc (.cells zeros38 38)).alloc (.cells #[.slice A0 n0 c0, .slice A1 n1 c1, .slice none 0 0, .slice A3 n3 c3] 38)) #[] 67
    simpa using this
  have hrow0 : Row ((((w.alloc (.cells #[.slice A0 n0 c0, .slice Am nm cm, .slice A3 n3 c3] 34)).alloc (.cells zeros38 38)).alloc (.cells #[.slice A0 n0 c0, .slice A1 n1 c1, .slice none 0 0, .slice A3 n3 c3] 38)).alloc (.cells #[] 67)) w.heap.size 67 2 (.slice (some ⟨w.heap.size + 3, 0, none⟩) 0 0) 0 [] := ⟨rfl, .inr ⟨w.heap.size + 3, 0, 0, #[], rfl, by omega, hem, Nat.le_refl _, by simp, by simp, fun j u hu => by simp at hu⟩⟩
  have hmx1 : 0 + nm ≤ maxLen := by unfold maxLen; omega
  have hby1 : (0 + nm) * 24 ≤ 140737488355328 := by omega
  have hmx2 : nm + nk ≤ maxLen := by unfold maxLen; omega
  have hby2 : (nm + nk) * 24 ≤ 140737488355328 := by omega
  go_enter Try.func11, Try.ntmps11
  go_wp2_with (at_builtin; refine wpList_append_row _ rfl (.tmp 19) (.tmp 21) 31 rfl w.heap.size 67 iM (.agg #[.string ByteArray.empty, .int .i64 0]) 2 24 Try.underlying31 hiM hzM0 hzM1 hzM2 rfl (by decide) (.slice (some ⟨w.heap.size + 3, 0, none⟩) 0 0) 0 [] rfl hrow0 B Am nm cm (ms.flatMap Mk.cells) rfl (Reads.below' hm.1.1 hb3 hB) (one_mk ms) hmx1 hby1 hb3.size ?_)
  intro A4 c4 w4 hr4 hg4 _
  try simp only [Nat.zero_add, List.nil_append] at hr4
  have hb4 : Below w.heap.size w w4 := hb3.grown hg4 hb3.size (fun k hk => by simp [Value.ownBlock] at hk; omega)
  have hbox4 := hbox.grown hg4 (by simp [Value.ownBlock])
  have hres4 := hres.grown hg4 (by simp [Value.ownBlock])
  have hobj4 := hobj.grown hg4 (by simp [Value.ownBlock])
  clear hg4 hrow0 hem hbox hres hobj hb0 hb1 hb2 hb3 hmx1 hby1
  have hbx := hbox4.cell
  go_wp2_with (at_builtin; refine wpList_append_row _ rfl (.tmp 22) (.tmp 23) 31 rfl w.heap.size 67 iM (.agg #[.string ByteArray.empty, .int .i64 0]) 2 24 Try.underlying31 hiM hzM0 hzM1 hzM2 rfl (by decide) (.slice A4 nm c4) nm (ms.flatMap Mk.cells) rfl hr4 B Ak nk ck (ks.flatMap Mk.cells) rfl (Reads.below' hk.1.1 hb4 hB) (one_mk ks) hmx2 hby2 hb4.size ?_)
  intro A6 c6 w6 hr6 hg6 _
  have hb6 : Below w.heap.size w w6 := hb4.grown hg6 hb4.size (fun k hk => (hr4.lt k hk).1)
  have hbox6 := hbox4.grown hg6 (fun e => row_blk hr4 hbox4 (by decide) e.symm)
  have hres6 := hres4.grown hg6 (fun e => row_blk hr4 hres4 (by decide) e.symm)
  have hobj6 := hobj4.grown hg6 (fun e => row_blk hr4 hobj4 (by decide) e.symm)
  have hS : RefSt w w6 (w.heap.size + 2) (nm + nk) (.slice A0 n0 c0) (.slice A1 n1 c1) (.slice none 0 0) (.slice A3 n3 c3) (.slice A6 (nm + nk) c6) (.slice A0 n0 c0) (.slice Am nm cm) (.slice A3 n3 c3) (refMade nm (ms ++ ks) 0) (ms ++ ks) :=
    ⟨hobj6, ⟨none, 0, rfl, Row.nil _ _ _ _⟩, ⟨A6, c6, rfl, by rw [List.flatMap_append]; exact hr6⟩, hbox6, Nat.le_refl _, hb6, hres6⟩
  clear hr4 hr6 hg6 hbx hbox4 hres4 hobj4 hbox6 hres6 hobj6 hb4 hb6 hmx2 hby2
  go_wp2
  go_loopw [26] (fun i wr => ∃ (k : Nat) (vN : Value), k ≤ nm + nk ∧ i = .int .i64 k ∧ Hid (RefSt w wr (w.heap.size + 2) (nm + nk) (.slice A0 n0 c0) (.slice A1 n1 c1) vN (.slice A3 n3 c3) (.slice A6 (nm + nk) c6) (.slice A0 n0 c0) (.slice Am nm cm) (.slice A3 n3 c3) (refMade nm (ms ++ ks) k) (ms ++ ks))) (fun i _ => nm + nk - (intOf i).toNat)
  case atStart => exact ⟨0, _, by omega, rfl, Lib.hid hS⟩
  case round =>
    clear hS
    obtain ⟨k, vN, hkn, rfl, hF⟩ := hrel
    obtain ⟨AN, cN, hvN, hrN⟩ := hF.out.oN
    rw [refMade_len] at hrN hvN
    subst hvN
    have hshape := hrN.shape
    obtain ⟨ax, cx, ex, hcx1, hcx2⟩ := hshape
    injection ex with ex1 ex2 ex3
    subst ex1
    subst ex3
    clear ex2
    have hcg := hF.out.blk.cell
    have hlg := hF.out.blk.lt
    have hcb := hF.out.box.cell
    have hlb := hF.out.box.lt
    have hbw := hF.out.below
    have hsz := hbw.size
    have hall : RM wr wr.heap.size A6 (nm + nk) (ms ++ ks) := ⟨⟨hF.out.oM.at_, by rw [List.length_append, HLM.out, HLK.out]⟩, fun x hx => by
      rcases List.mem_append.1 hx with hx | hx
      · exact hm.2 x hx
      · exact hk.2 x hx⟩
    by_cases hlt : k < nm + nk
    · obtain ⟨b, o, rfl, hbB, hfine, z0, z1⟩ := hall.at_ hlt
      generalize hmm : (ms ++ ks).getD k .zero = m at *
      have HM := Lib.hid hmm
      clear hmm hall
      obtain ⟨s, ad⟩ := m
      dsimp only at z0 z1
      have hmx : k + 1 ≤ maxLen := by unfold maxLen; omega
      have hby : (k + 1) * 40 ≤ 140737488355328 := by omega
      by_cases hkm : k < nm
      · as_aux_lemma =>
          have hwh : whAt nm k = 1 := by unfold whAt; rw [if_pos hkm]
          have HS : Hid (refMade nm (ms ++ ks) (k + 1) = refMade nm (ms ++ ks) k ++ [nmOf 1 ⟨s, ad⟩]) := Lib.hid (by rw [refMade_succ, HM.out, hwh])
          clear hwh
          have hrd : Reads ((wr.alloc (.cells #[.string s, .int .i64 ad] 67)).alloc (.cells #[.string s, .int .i64 1, .int .i64 ad, .bool false] 69)) (wr.heap.size + 1 + 1) 4 (some ⟨wr.heap.size + 1, 0, none⟩) 1 [.string s, .int .i64 1, .int .i64 ad, .bool false] := by
            have := ob_reads (wr.alloc (.cells #[.string s, .int .i64 ad] 67)) 69 4 1 [.string s, .int .i64 1, .int .i64 ad, .bool false] rfl
            simpa using this
          have hF2 := Lib.hid ((hF.out.grow (Grow.alloc wr (.cells #[.string s, .int .i64 ad] 67))).grow (Grow.alloc (wr.alloc (.cells #[.string s, .int .i64 ad] 67)) (.cells #[.string s, .int .i64 1, .int .i64 ad, .bool false] 69)))
          go_wp2_with (at_builtin; refine wpList_append_row _ rfl (.tmp 37) (.tmp 44) 36 rfl w.heap.size 69 iN (.agg #[.string ByteArray.empty, .int .i64 0, .int .i64 0, .bool false]) 4 40 Try.underlying36 hiN hzN0 hzN1 hzN2 rfl (by decide) (.slice AN k cN) k ((refMade nm (ms ++ ks) k).flatMap Nm.cells) rfl ((hrN.alloc _).alloc _) (wr.heap.size + 1 + 1) (some ⟨wr.heap.size + 1, 0, none⟩) 1 1 [.string s, .int .i64 1, .int .i64 ad, .bool false] rfl hrd (one_nm _ _ _ _) hmx hby hF2.out.below.size ?_)
          intro A5 c5 w5 hr5 hg5 _
          have hF3 := Lib.hid (RefSt.append (x := nmOf 1 ⟨s, ad⟩) hF2.out (by rw [refMade_len]; exact hr5) hg5)
          have hblk5 : Blk w5 (w.heap.size + 2) _ 38 := hF2.out.blk.fr (Fr.of_grown hg5) (fun e => row_blk hF2.out.oN.row hF2.out.blk (by decide) e)
          have hc5 := hblk5.cell
          have hf5 := hblk5.free
          have hl5 := hblk5.lt
          clear hr5 hg5 hF2 hF hmx hby hrN hrd hcg hlg hblk5 hcb hlb
          go_wp2
          go_roundw
          case rel => exact ⟨k + 1, _, by omega, by go_num, by rw [HS.out]; rw [refMade_len] at hF3; exact hF3⟩
          case measure => simp [intOf]; omega

      · as_aux_lemma =>
          have hwh : whAt nm k = 2 := by unfold whAt; rw [if_neg hkm]
          have HS : Hid (refMade nm (ms ++ ks) (k + 1) = refMade nm (ms ++ ks) k ++ [nmOf 2 ⟨s, ad⟩]) := Lib.hid (by rw [refMade_succ, HM.out, hwh])
          clear hwh
          have hrd : Reads ((wr.alloc (.cells #[.string s, .int .i64 ad] 67)).alloc (.cells #[.string s, .int .i64 2, .int .i64 ad, .bool false] 69)) (wr.heap.size + 1 + 1) 4 (some ⟨wr.heap.size + 1, 0, none⟩) 1 [.string s, .int .i64 2, .int .i64 ad, .bool false] := by
            have := ob_reads (wr.alloc (.cells #[.string s, .int .i64 ad] 67)) 69 4 1 [.string s, .int .i64 2, .int .i64 ad, .bool false] rfl
            simpa using this
          have hF2 := Lib.hid ((hF.out.grow (Grow.alloc wr (.cells #[.string s, .int .i64 ad] 67))).grow (Grow.alloc (wr.alloc (.cells #[.string s, .int .i64 ad] 67)) (.cells #[.string s, .int .i64 2, .int .i64 ad, .bool false] 69)))
          go_wp2_with (at_builtin; refine wpList_append_row _ rfl (.tmp 37) (.tmp 44) 36 rfl w.heap.size 69 iN (.agg #[.string ByteArray.empty, .int .i64 0, .int .i64 0, .bool false]) 4 40 Try.underlying36 hiN hzN0 hzN1 hzN2 rfl (by decide) (.slice AN k cN) k ((refMade nm (ms ++ ks) k).flatMap Nm.cells) rfl ((hrN.alloc _).alloc _) (wr.heap.size + 1 + 1) (some ⟨wr.heap.size + 1, 0, none⟩) 1 1 [.string s, .int .i64 2, .int .i64 ad, .bool false] rfl hrd (one_nm _ _ _ _) hmx hby hF2.out.below.size ?_)
          intro A5 c5 w5 hr5 hg5 _
          have hF3 := Lib.hid (RefSt.append (x := nmOf 2 ⟨s, ad⟩) hF2.out (by rw [refMade_len]; exact hr5) hg5)
          have hblk5 : Blk w5 (w.heap.size + 2) _ 38 := hF2.out.blk.fr (Fr.of_grown hg5) (fun e => row_blk hF2.out.oN.row hF2.out.blk (by decide) e)
          have hc5 := hblk5.cell
          have hf5 := hblk5.free
          have hl5 := hblk5.lt
          clear hr5 hg5 hF2 hF hmx hby hrN hrd hcg hlg hblk5 hcb hlb
          go_wp2
          go_roundw
          case rel => exact ⟨k + 1, _, by omega, by go_num, by rw [HS.out]; rw [refMade_len] at hF3; exact hF3⟩
          case measure => simp [intOf]; omega

    · obtain rfl : k = nm + nk := by omega
      have hF1 := hF.out
      have hmade : refMade nm (ms ++ ks) (nm + nk) = made ms ks := by have := refMade_all ms ks; rw [HLM.out, HLK.out] at this; exact this
      rw [hmade] at hF1 hrN
      have hlenM : (made ms ks).length = nm + nk := by rw [← hmade, refMade_len]
      have HLEN := Lib.hid hlenM
      have hfine : ∀ x ∈ made ms ks, x.fine := fun x hx => by
        rcases List.mem_append.1 hx with hx | hx
        · obtain ⟨y, hy, rfl⟩ := List.mem_map.1 hx
          exact ⟨(hm.2 y hy).1, by show (Lit.int .i64 1).wf = true; decide, (hm.2 y hy).2⟩
        · obtain ⟨y, hy, rfl⟩ := List.mem_map.1 hx
          exact ⟨(hk.2 y hy).1, by show (Lit.int .i64 2).wf = true; decide, (hk.2 y hy).2⟩
      have hRead : Ob.Read ⟨A0, n0, c0, A1, n1, c1, AN, nm + nk, cN, A3, n3, c3, made ms ks, ds⟩ wr wr.heap.size :=
        ⟨⟨⟨hrN.reads, hlenM⟩, hfine⟩, (hd.below' hbw hB).more (by omega), l0, l1, by dsimp only; omega, l3⟩
      have HE : Hid (objErr ⟨A0, n0, c0, A1, n1, c1, AN, nm + nk, cN, A3, n3, c3, made ms ks, ds⟩ = errOf n0 n1 n3 (made ms ks) ds) := Lib.hid (by
        unfold errOf objErr
        rw [hlenM])
      generalize errOf n0 n1 n3 (made ms ks) ds = E at *
      have HF1 := Lib.hid hF1
      have HRE := Lib.hid hRead
      have HFI := Lib.hid hfine
      unfold maxLen at hcx2
      clear hF1 hRead hrN hF hmade hlenM hfine hall
      by_cases hE : E = 0
      · subst hE
        go_wp2_with (go_at_call 16; refine (fault_any ⟨A0, n0, c0, A1, n1, c1, AN, nm + nk, cN, A3, n3, c3, made ms ks, ds⟩ _ wr.heap.size HRE.out (Nat.le_refl _) hcx1 hcx2).mono ?_; rintro e w5 ⟨rfl, hb5⟩; have hF5 := Lib.hid (HF1.out.grow hb5); have hcg5 := hF5.out.blk.cell; have hcr5 := hF5.out.res.cell; unfold zeros38 at hcr5; have hfr5 := hF5.out.res.free; have hlr5 := hF5.out.res.lt; have hlg5 := hF5.out.blk.lt; rw [HE.out])
        have hres := RefSt.full hF5.out HLEN.out HFI.out (hw.below' hF5.out.below hB) (hb.below' hF5.out.below hB) (hd.below' hF5.out.below hB) l0 l1 (by omega) l3 hB (w4 := set4b w5 (w.heap.size + 1) (.slice A0 n0 c0) (.slice A1 n1 c1) (.slice AN (nm + nk) cN) (.slice A3 n3 c3)) (fr4b _ _ _ _ _ _)
        exact bodyPost_ret (v := .tuple #[.agg #[.slice A0 n0 c0, .slice A1 n1 c1, .slice AN (nm + nk) cN, .slice A3 n3 c3], .int .i64 0]) (by simp [results, Try.results11, go_sem, hcr5, hlr5, zeros38]) rfl ⟨⟨A0, n0, c0, A1, n1, c1, AN, nm + nk, cN, A3, n3, c3, made ms ks, ds⟩, rfl, hres.1, rfl, rfl, hres.2⟩
      · have hE' : (E != 0) = true := by simpa using hE
        have HNE := Lib.hid hE
        clear hE
        go_wp2_with (go_at_call 16; refine (fault_any ⟨A0, n0, c0, A1, n1, c1, AN, nm + nk, cN, A3, n3, c3, made ms ks, ds⟩ _ wr.heap.size HRE.out (Nat.le_refl _) hcx1 hcx2).mono ?_; rintro e w5 ⟨rfl, hb5⟩; have hF5 := Lib.hid (HF1.out.grow hb5); have hcg5 := hF5.out.blk.cell; have hcr5 := hF5.out.res.cell; unfold zeros38 at hcr5; have hfr5 := hF5.out.res.free; have hlr5 := hF5.out.res.lt; have hlg5 := hF5.out.blk.lt; rw [HE.out])
        exact bodyPost_ret (v := .tuple #[.agg #[.slice none 0 0, .slice none 0 0, .slice none 0 0, .slice none 0 0], .int .i64 E]) (by simp [results, Try.results11, go_sem, hcr5, hlr5, zeros38]) rfl (MadePost.bad HNE.out (RefSt.done hF5.out))
end Go.Proofs.Ytgmpcdonmlhohaa
