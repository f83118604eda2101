/- A heap with keys of type ByteArray: contracts of Out and Pop. -/
import Derived.Test.YtenhcpobncmedaaHpGS
namespace Go.Proofs.Ytenhcpobncmedaa.HS
open Go.RowKit
set_option maxHeartbeats 400000
set_option linter.unusedVariables false
set_option linter.unusedSimpArgs false
/-- The two rows, set anew. -/
theorem Raw.setG {w : World} {B g b n n' : Nat} {vi vk vi' vk' : Value} {is ks is' ks' : List Value} {f : Int → Option Int} {cnt : Nat} (h : Raw w B g b vi vk n is ks f cnt) (hi : Row w B 3 1 vi' n' is') (hk : Row w B 9 1 vk' n' ks') (hne : ∀ k, vi'.ownBlock = some k → vk'.ownBlock ≠ some k) :
    Raw ((w.setCell ⟨g, 0, none⟩ vi').setCell ⟨g, 1, none⟩ vk') B g b vi' vk' n' is' ks' f cnt := by
  have hf : Fr (fun k => k = g) w ((w.setCell ⟨g, 0, none⟩ vi').setCell ⟨g, 1, none⟩ vk') := ((Fr.refl (fun k => k = g) w).setCell (p := ⟨g, 0, none⟩) (fun _ => rfl) _).setCell (p := ⟨g, 1, none⟩) (fun _ => rfl) _
  refine ⟨?_, hi.fr hf (fun k hk' e => wa_row_blk hi h.blk (by decide) (by rw [hk', e])), hk.fr hf (fun k hk' e => wa_row_blk hk h.blk (by decide) (by rw [hk', e])), h.map.fr hf (fun e => h.map.blk_ne h.blk e.symm), hne, h.low, h.lowb⟩
  have := (h.blk.set 0 vi').set 1 vk'
  simpa using this
theorem take_len {α : Type} {l : List α} {k : Nat} (h : k ≤ l.length) : (l.take k).length = k := by simp; omega
theorem out_swap {ps : List (Int × ByteArray)} {i n : Nat} (hi : i < ps.length) (hn : ps.length = n + 1) : ps.Perm (ps.getD i zp :: (swl zp ps i n).take n) := by
  have hp := swl_perm (z := zp) (l := ps) hi (show n < ps.length by omega)
  have hl : (swl zp ps i n).length = n + 1 := by rw [swl_len, hn]
  have e : swl zp ps i n = (swl zp ps i n).take n ++ [ps.getD i zp] := by
    have h1 : (swl zp ps i n).take (n + 1) = (swl zp ps i n).take n ++ [(swl zp ps i n)[n]] := List.take_succ_eq_append_getElem (by omega)
    rw [List.take_of_length_le (by omega)] at h1
    have h2 : (swl zp ps i n)[n] = ps.getD i zp := by
      rw [← getD_of (z := zp) (by omega), swl_get hi (by omega), swp_r]
    rw [h2] at h1
    exact h1
  refine hp.symm.trans ?_
  exact (List.Perm.of_eq e).trans List.perm_append_comm
theorem F_own {g b k n c m c' n' d m' d' : Nat} {A A' : Option Addr} (h : F g b (.slice A n c) (.slice A' m c') k) : F g b (.slice A n' d) (.slice A' m' d') k := by
  rcases h with h | h | h | h
  · exact .inl h
  · exact .inr (.inl h)
  · exact .inr (.inr (.inl (by rw [pr_own (n' := n) (c' := c)]; exact h)))
  · exact .inr (.inr (.inr (by rw [pr_own (n' := m) (c' := c')]; exact h)))
theorem take_get {ps : List (Int × ByteArray)} {n k : Nat} (hk : k < n) : pf (ps.take n) k = pf ps k := by
  unfold pf
  simp only [List.getD_eq_getElem?_getD]
  rw [List.getElem?_take_of_lt hk]
theorem out_hole {ps : List (Int × ByteArray)} (h : Heap (bef klt) ps.length (pf ps)) {i n : Nat} (hi : i < ps.length) (hn : ps.length = n + 1) : Hole (bef klt) n (pf ((swl zp ps i n).take n)) i := by
  refine Hole.of_heap (bef_ord sord) h (fun k hk _ => by omega) (fun k hk hne => ?_) (fun _ _ _ _ => hi)
  rw [take_get hk, pf_swl hi (by omega), swp_o _ hne (by omega)]
def OutPost (w : World) (B g b : Nat) (vi vk : Value) (ps : List (Int × ByteArray)) (i cnt : Nat) (v : Value) (e : Ending) (w' : World) : Prop :=
  e = .returned v ∧ ∃ qs, ps.Perm (ps.getD i zp :: qs) ∧ GoOk w B g b vi vk qs cnt w'
set_option maxRecDepth 100000 in
theorem out_none (g b : Nat) (vi vk : Value) (ps : List (Int × ByteArray)) (f : Int → Option Int) (cnt : Nat) (id : Int) (w : World) (B : Nat) (h : St w B g b vi vk ps f cnt) (hid : (Lit.int .i64 id).wf = true) (hf : f id = none) :
    Calls Try.prog 107 #[.pointer (some ⟨g, 0, none⟩), .int .i64 id] w fun e w' => e = .returned (.tuple #[.string ⟨#[]⟩, .int .i64 4]) ∧ w = w' := by
  have HK := Lib.hid (key_none g b vi vk ps f cnt id w B h hid hf)
  clear h hf
  go_enter Try.func107, Try.ntmps107
  go_wp2_with fail
  refine HK.out.mono ?_
  rintro e w1 ⟨rfl, rfl⟩
  go_wp2
  go_ret2
  exact ⟨rfl, rfl⟩
set_option maxHeartbeats 4000000 in
set_option maxRecDepth 100000 in
theorem out_some (g b : Nat) (vi vk : Value) (ps : List (Int × ByteArray)) (f : Int → Option Int) (cnt : Nat) (id : Int) (i : Nat) (w : World) (B : Nat) (h : Ok w B g b vi vk ps f cnt) (hid : (Lit.int .i64 id).wf = true) (hf : f id = some (i : Int)) (hi : i < ps.length) (hl : ps.length < 4611686018427387904) (hcnt : cnt < maxLen) :
    Calls Try.prog 107 #[.pointer (some ⟨g, 0, none⟩), .int .i64 id] w (OutPost w B g b vi vk ps i cnt (.tuple #[.string (ps.getD i zp).2, .int .i64 0])) := by
  have HK := Lib.hid (key_some g b vi vk ps f cnt id i w B h.st hid hf hi)
  obtain ⟨A, c, A', c', rfl, hc1, hc2, rfl, hc3, hc4⟩ := h.st.shapes
  have b0 := h.st.blk.cell 0
  have b2 := h.st.blk.cell 2
  have bl := h.st.blk.lt
  have hlook := h.st.drew.map.run_lookup (t := 78) Try.underlying3 Try.underlying3 Try.underlying78 (wa_zero3 w.drew) hid
  rw [hf] at hlook
  simp only [Option.getD_some] at hlook
  obtain ⟨n, hn⟩ : ∃ n, ps.length = n + 1 := ⟨ps.length - 1, by omega⟩
  have HSW := Lib.hid (swap152 g b _ _ ps f cnt i n w.drew B h.st.drew hi (by omega) h.pos (by omega) hcnt h.wf)
  have hidi : (ps.getD i zp).1 = id := by
    obtain ⟨j, hj, h1, h2⟩ := h.pos.only id _ hf
    have : j = i := by omega
    rw [← this]; exact h2
  have HFIN : Hid (∀ w1 : World, Fr (F g b (.slice A (n + 1) c) (.slice A' (n + 1) c')) w w1 → ∀ w2 ps' f', Mid w1 ((swl zp ps i n).take n) w2 B g b (.slice A n c) (.slice A' n c') ps' f' cnt → Heap (bef klt) ps'.length (pf ps') → OutPost w B g b (.slice A (n + 1) c) (.slice A' (n + 1) c') ps i cnt (.tuple #[.string (ps.getD i zp).2, .int .i64 0]) (.returned (.tuple #[.string (ps.getD i zp).2, .int .i64 0])) w2) := Lib.hid (fun w1 hfr w2 ps' f' hM hh => ⟨rfl, _, out_swap hi hn, Mid.go hM hh (fun p hp => h.wf p ((swl_perm hi (by omega)).mem_iff.1 (List.mem_of_mem_take hp))) (List.Perm.refl _) hfr (fun k hk => .inl (F_own hk))⟩)
  have HHO := Lib.hid (out_hole h.heap hi hn)
  have HWF : Hid (∀ p ∈ (swl zp ps i n).take n, (Lit.int .i64 p.1).wf = true) := Lib.hid (fun p hp => h.wf p ((swl_perm hi (by omega)).mem_iff.1 (List.mem_of_mem_take hp)))
  have HPS := Lib.hid (h.pos.swap hi (show n < ps.length by omega))
  have HID := Lib.hid hidi
  have HN := Lib.hid hn
  have HI := Lib.hid hi
  have hnb : (n : Int) < 4611686018427387904 := by omega
  clear h hf hidi
  rw [hn] at hc1 hc3 b0 b2 hi HSW
  rw [hn]
  clear hn hl
  generalize hky : (ps.getD i zp).2 = ky at *
  clear hky
  go_enter Try.func107, Try.ntmps107
  go_wp2_with fail
  refine HK.out.mono ?_
  rintro e w1 ⟨rfl, rfl⟩
  go_wp2_with fail
  go_region
  go_wp2_with fail
  refine HSW.out.mono ?_
  rintro e w2 ⟨rfl, hst2, hfr2⟩
  have HPS2 := HPS.out
  rw [HID.out] at hst2 HPS2
  have hl2 : (swl zp ps i n).length = n + 1 := by rw [swl_len, HN.out]
  have hlast : ((swl zp ps i n).getD n zp).1 = id := by rw [swl_get HI.out (by rw [HN.out]; omega), swp_r]; exact HID.out
  generalize swl zp ps i n = ps2 at *
  generalize upd1 (upd1 f (ps.getD n zp).1 i) id n = f2 at *
  have R2 := hst2.raw
  rw [hl2] at R2
  have hri3 : Row w2 B 3 1 (.slice A n c) n ((ps2.take n).map iv) := by have := R2.ri.take (k := n) (by omega); simpa using this
  have hrk3 : Row w2 B 9 1 (.slice A' n c') n ((ps2.take n).map kv) := by have := R2.rk.take (k := n) (by omega); simpa using this
  have hne3 : ∀ k, (Value.slice A n c).ownBlock = some k → (Value.slice A' n c').ownBlock ≠ some k := fun k hk => by
    rw [pr_own (n' := n + 1) (c' := c)] at hk
    rw [pr_own (n' := n + 1) (c' := c')]
    exact R2.ne k hk
  have R3 := (R2.setG hri3 hrk3 hne3).drew
  have k0 := R2.blk.cell 0
  have k1 := R2.blk.cell 1
  have k2 := R2.blk.cell 2
  have kf0 := R2.blk.free 0
  have kf1 := R2.blk.free 1
  have kl := R2.blk.lt
  have hfr3 : Fr (F g b (.slice A (n + 1) c) (.slice A' (n + 1) c')) w ((w2.setCell ⟨g, 0, none⟩ (.slice A n c)).setCell ⟨g, 1, none⟩ (.slice A' n c')).drew := ((((Fr.refl _ w).drew.trans' hfr2).setCell (p := ⟨g, 0, none⟩) (fun _ => .inl rfl) _).setCell (p := ⟨g, 1, none⟩) (fun _ => .inl rfl) _).drew
  have HR3 := Lib.hid R3
  have HF3 := Lib.hid hfr3
  clear R2 R3 hst2 hfr2 hri3 hrk3 hne3 hfr3
  go_wp2_with fail
  go_region
  generalize ((w2.setCell ⟨g, 0, none⟩ (.slice A n c)).setCell ⟨g, 1, none⟩ (.slice A' n c')).drew = w3 at *
  clear k0 k1 k2 kf0 kf1 kl
  have R3 := HR3.out
  have k2 := R3.blk.cell 2
  have kl := R3.blk.lt
  obtain ⟨w4, hrun, hm4, hg4⟩ := R3.map.delete (t := 78) Try.underlying3 Try.underlying78 hid
  have R4 := R3.setM hm4 hg4
  have hl3 : (ps2.take n).length = n := by simp; omega
  have hst4 := R4.st (ps := ps2.take n) hl3 rfl rfl
  have hfr4 : Fr (F g b (.slice A (n + 1) c) (.slice A' (n + 1) c')) w w4 := HF3.out.grown hg4 (fun k e _ => .inr (.inl (by injection e with e; exact e.symm)))
  have hpos4 : Pos zp (ps2.take n) (fun x => if x = id then none else f2 x) := by
    have := HPS2.pop (by omega)
    rw [hl2, Nat.add_sub_cancel, hlast] at this
    exact this
  have HM4 := Lib.hid (show Mid w4 (ps2.take n) w4 B g b _ _ (ps2.take n) _ cnt from ⟨hst4, hpos4, List.Perm.refl _, Fr.refl _ _⟩)
  have HFX : Hid (i < n → Calls Try.prog 100 #[.pointer (some ⟨g, 0, none⟩), .int .i64 i] w4 (FixPost w4 B g b (.slice A n c) (.slice A' n c') (ps2.take n) cnt)) := Lib.hid (fun hin => fix100 g b _ _ _ _ cnt i w4 B hst4 (by omega) hpos4 (by omega) hcnt HWF.out (by rw [hl3]; exact HHO.out))
  have HFR4 := Lib.hid hfr4
  have HL3 := Lib.hid hl3
  clear R3 R4 hm4 hg4 hst4 hpos4 hfr4 HPS2 hl2 hlast hl3
  by_cases hin : i < n
  · have hini : (i : Int) < (n : Int) := by omega
    have HFX2 := Lib.hid (HFX.out hin)
    go_wp2_with fail
    refine HFX2.out.mono ?_
    rintro e w5 ⟨rfl, ps', f', hM, hh⟩
    have HG := Lib.hid (HFIN.out w4 HFR4.out w5 ps' f' hM hh)
    clear hM hh
    go_wp2
    go_ret2
    exact HG.out
  · have hini : ¬ (i : Int) < (n : Int) := by omega
    have HG := Lib.hid (HFIN.out w4 HFR4.out w4 _ _ HM4.out (by
      rw [HL3.out]
      intro j h0 hj
      exact HHO.out.off j h0 hj (by omega) (by unfold hpar; omega)))
    go_wp2
    go_ret2
    exact HG.out
set_option maxRecDepth 100000 in
theorem pop_none (g b : Nat) (vi vk : Value) (f : Int → Option Int) (cnt : Nat) (w : World) (B : Nat) (h : St w B g b vi vk [] f cnt) :
    Calls Try.prog 103 #[.pointer (some ⟨g, 0, none⟩)] w fun e w' => e = .returned (.tuple #[.int .i64 0, .string ⟨#[]⟩, .int .i64 4]) ∧ w = w' := by
  have HK := Lib.hid (peek_none g b vi vk f cnt w B h)
  clear h
  go_enter Try.func103, Try.ntmps103
  go_wp2_with fail
  refine HK.out.mono ?_
  rintro e w1 ⟨rfl, rfl⟩
  go_wp2
  go_ret3
  exact ⟨rfl, rfl⟩
set_option maxRecDepth 100000 in
theorem pop_some (g b : Nat) (vi vk : Value) (ps : List (Int × ByteArray)) (f : Int → Option Int) (cnt : Nat) (w : World) (B : Nat) (h : Ok w B g b vi vk ps f cnt) (hn : 0 < ps.length) (hl : ps.length < 4611686018427387904) (hcnt : cnt < maxLen) :
    Calls Try.prog 103 #[.pointer (some ⟨g, 0, none⟩)] w (OutPost w B g b vi vk ps 0 cnt (.tuple #[.int .i64 (ps.getD 0 zp).1, .string (ps.getD 0 zp).2, .int .i64 0])) := by
  have HK := Lib.hid (peek_some g b vi vk ps f cnt w B h.st hn)
  have hid : (Lit.int .i64 (ps.getD 0 zp).1).wf = true := by have := h.wf _ (List.getElem_mem hn); rw [← getD_of (z := zp) hn] at this; exact this
  have HO := Lib.hid (fun nq => out_some g b vi vk ps f cnt (ps.getD 0 zp).1 0 (w.drewN nq) B (h.drewN nq) hid (h.pos.at_ 0 hn) hn hl hcnt)
  have HC : Hid (∀ nq v e w', OutPost (w.drewN nq) B g b vi vk ps 0 cnt v e w' → e = .returned v ∧ ∀ v', OutPost w B g b vi vk ps 0 cnt v' (.returned v') w') := Lib.hid (fun nq v e w' ⟨h1, qs, h2, vi', vk', ps', f', h3, h4, h5, h6⟩ => ⟨h1, fun v' => ⟨rfl, qs, h2, vi', vk', ps', f', h3, h4, ((Fr.refl _ w).drewN nq).trans' h5, h6⟩⟩)
  clear h hid hn hl
  generalize hpv : (ps.getD 0 zp).1 = x0 at *
  generalize hpk : (ps.getD 0 zp).2 = y0 at *
  clear hpv hpk
  go_enter Try.func103, Try.ntmps103
  go_wp2_with fail
  refine HK.out.mono ?_
  rintro e w1 ⟨rfl, nq, rfl⟩
  go_wp2_with fail
  refine (HO.out nq).mono ?_
  rintro e w2 hp
  obtain ⟨rfl, hfin⟩ := HC.out nq _ _ _ hp
  have HG := Lib.hid (hfin (.tuple #[.int .i64 x0, .string y0, .int .i64 0]))
  clear hp hfin
  go_wp2
  go_ret3
  exact HG.out
end Go.Proofs.Ytenhcpobncmedaa.HS
