/- Contract of ringref4.BindPlaces. -/
import Derived.Test.YtmndmdipjfblhaaBpE
namespace Go.Proofs.Ytmndmdipjfblhaa
open Go.RowKit
set_option maxHeartbeats 400000
set_option linter.unusedVariables false
set_option linter.unusedSimpArgs false
def En.cells4 (x : En) : List Value := [.string x.s, .int .i64 x.part, .int .i64 x.ad, .bool x.wk]
theorem one_en4 (x : En) : ∀ u ∈ x.cells4, u.oneCell' = true := by
  intro u hu
  simp [En.cells4] at hu
  rcases hu with rfl | rfl | rfl | rfl <;> rfl
theorem infoOne : (Try.prog.info? 61).map (fun i => (i.zero, i.size, i.bytes)) = some (some (.agg #[.string ByteArray.empty, .int .i64 0, .int .i64 0, .bool false]), 4, 40) := by kernel_rfl
theorem bp_key_eq {s t : ByteArray} : (s.toList == t.toList) = decide (s.data.toList = t.data.toList) := by
  rw [ByteArray.toList_eq, ByteArray.toList_eq]
  rw [Bool.eq_iff_iff]; simp
/-- The entries that stand in a slice. -/
theorem rs_at4 {w : World} {B n i : Nat} {A : Option Addr} {l : List En} (h : RS En.cells4 4 w B A n l) (hi : i < n) :
    ∃ b o x, A = some ⟨b, o, none⟩ ∧ b < B ∧ l[i]? = some x ∧ w.cell? ⟨b, o + i * 4, none⟩ = some (.string x.s) ∧ w.cell? ⟨b, o + i * 4 + 1, none⟩ = some (.int .i64 x.part) ∧ w.cell? ⟨b, o + i * 4 + 2, none⟩ = some (.int .i64 x.ad) ∧ w.cell? ⟨b, o + i * 4 + 3, none⟩ = some (.bool x.wk) := by
  obtain ⟨b, o, e, hb, hm, hc⟩ := RS.at_ (cl := En.cells4) (s := 4) (fun _ => rfl) En.zero h hi
  have hl : i < l.length := by rw [h.2]; exact hi
  refine ⟨b, o, l.getD i .zero, e, hb, ?_, hc 0 _ rfl, hc 1 _ rfl, hc 2 _ rfl, hc 3 _ rfl⟩
  simp [List.getD, List.getElem?_eq_getElem hl]
theorem take_snoc_en {l : List En} {k : Nat} {x : En} (h : l[k]? = some x) : l.take (k + 1) = l.take k ++ [x] := by
  obtain ⟨hk, rfl⟩ := List.getElem?_eq_some_iff.1 h
  exact List.take_succ_eq_append_getElem hk
/-- What is gathered of the first k. -/
def gath (all : List En) (k : Nat) : List En := (uniq (all.take k)).map (bestOf all)
theorem gath_old {all : List En} {k : Nat} {x : En} (h : all[k]? = some x) (hm : (keysOf (all.take k)).contains x.key = true) : gath all (k + 1) = gath all k := by
  unfold gath; rw [take_snoc_en h, uniq_snoc, if_pos hm]
theorem gath_new {all : List En} {k : Nat} {x : En} (h : all[k]? = some x) (hm : (keysOf (all.take k)).contains x.key = false) : gath all (k + 1) = gath all k ++ [bestOf all x] := by
  unfold gath; rw [take_snoc_en h, uniq_snoc, if_neg (by rw [hm]; simp), List.map_append]; rfl
theorem gath_all (all : List En) : gath all all.length = outOf all := by unfold gath outOf; rw [List.take_length]
theorem gath_len (all : List En) (k : Nat) : (gath all k).length ≤ all.length := by
  unfold gath
  rw [List.length_map]
  have : ∀ (l : List En) (met : List (List UInt8)), (uniqGo met l).length ≤ l.length := by
    intro l
    induction l with
    | nil => intro met; simp [uniqGo]
    | cons a l ih =>
      intro met
      simp only [uniqGo]
      split
      · have := ih met; simp; omega
      · have := ih (met ++ [a.key]); simp; omega
  have h := this (all.take k) []
  rw [List.length_take] at h
  unfold uniq
  omega
/-- No name met has two that are not weak. -/
def okTo (all : List En) (k : Nat) : Prop := ∀ y ∈ all.take k, (strongs all y.key).length ≤ 1
theorem okTo_next {all : List En} {k : Nat} {x : En} (h : all[k]? = some x) (hk : okTo all k) (hx : (strongs all x.key).length ≤ 1) : okTo all (k + 1) := by
  intro y hy
  rw [take_snoc_en h] at hy
  rcases List.mem_append.1 hy with hy | hy
  · exact hk y hy
  · obtain rfl : y = x := by simpa using hy
    exact hx
theorem okTo_met {all : List En} {k : Nat} {x : En} (h : all[k]? = some x) (hk : okTo all k) (hm : (keysOf (all.take k)).contains x.key = true) : okTo all (k + 1) := by
  refine okTo_next h hk ?_
  have hm' : x.key ∈ (all.take k).map En.key := List.elem_iff.1 hm
  obtain ⟨y, hy, e⟩ := List.mem_map.1 hm'
  rw [← e]; exact hk y hy
theorem okTo_all {all : List En} (hk : okTo all all.length) : dup all = false := by
  rw [Bool.eq_false_iff]
  intro hd
  unfold dup at hd
  rw [List.any_eq_true] at hd
  obtain ⟨y, hy, h⟩ := hd
  have := hk y (by rw [List.take_length]; exact hy)
  simp at h
  omega
theorem strongs_count (all : List En) (k : List UInt8) (j : Nat) : (strongs (all.take j) k).length ≤ j := by
  unfold strongs
  have := List.length_filter_le (fun y => y.key == k && !y.wk) (all.take j)
  rw [List.length_take] at this
  omega
theorem ents_fine {os : List Ob} (h : ∀ o ∈ os, ∀ y ∈ o.ns, y.s.size ≤ 9223372036854775807) : ∀ x ∈ ents os, x.s.size ≤ 9223372036854775807 := by
  intro x hx
  unfold ents entsTo at hx
  obtain ⟨j, hj, hx⟩ := List.mem_flatMap.1 hx
  obtain ⟨y, hy, rfl⟩ := List.mem_map.1 hx
  have hl : j < os.length := by simpa using hj
  have e : os.getD j .zero = os[j] := by simp [List.getD, List.getElem?_eq_getElem hl]
  rw [e] at hy
  exact h _ (List.getElem_mem hl) y hy
theorem count_snoc (all : List En) {j : Nat} {x y : En} (h : all[j]? = some y) : (strongs (all.take (j + 1)) x.key).length = (strongs (all.take j) x.key).length + (if y.key = x.key ∧ y.wk = false then 1 else 0) := by
  rw [take_snoc_en h, strongs_snoc, List.length_append]
  by_cases h1 : y.key = x.key <;> cases h2 : y.wk <;> simp [h1]
theorem best_snoc (all : List En) {j : Nat} {x y : En} (h : all[j]? = some y) : bestOf (all.take (j + 1)) x = if y.key = x.key ∧ y.wk = false then y else bestOf (all.take j) x := by
  rw [take_snoc_en h]
  by_cases h1 : y.key = x.key
  · cases h2 : y.wk
    · rw [if_pos ⟨h1, rfl⟩]; exact best_same h1 h2
    · rw [if_neg (by simp)]; exact best_other (.inr h2)
  · rw [if_neg (fun h' => h1 h'.1)]; exact best_other (.inl h1)
set_option maxHeartbeats 4000000 in
set_option maxRecDepth 100000 in
theorem bindPlaces_any (hchk : ∀ (o : Ob) (w : World) (B : Nat), o.Read w B → B ≤ w.heap.size → o.n2 ≤ o.c2 → o.c2 ≤ 9223372036854775807 → Calls Try.prog 22 #[.agg o.vals] w (ErrPost w (objErr o)))
    (A : Option Addr) (n c : Nat) (os : List Ob) (w : World) (B : Nat) (h : RO w B A n os) (hB : B ≤ w.heap.size) (hn : n ≤ 9223372036854775807) : Calls Try.prog 8 #[.slice A n c] w (PlPost w os) := by
  obtain ⟨i0, hi, hz0, hz1, hz2⟩ := info_parts infoPlace
  obtain ⟨i9, hi9, hy0, hy1, hy2⟩ := info_parts infoOne
  have hmm := @run_makeMap Try.prog
  have HL := Lib.hid h.len
  have HS := Lib.hid (bindSpots_any hchk A n c os w B h hB hn)
  unfold SpPost at HS
  by_cases hE : spErr os = 0
  rotate_left
  · have e : Hid (plErr os = spErr os) := Lib.hid (by unfold plErr; rw [if_neg hE])
    generalize spErr os = E at *
    have HE := Lib.hid hE
    have d : (E != 0) = true := by simpa using hE
    clear hE
    go_enter Try.func8, Try.ntmps8
    go_wp2_with fail
    refine HS.out.mono ?_
    rintro e' w3 ⟨v, rfl, hr3, hb3⟩
    go_wp2
    go_ret2
    exact PlPost.bad e.out HE.out hb3
  have HE : Hid (plErr os = if dup (ents os) = true then 5 else 0) := Lib.hid (by unfold plErr; rw [if_pos hE])
  have hpe : partsErr os = 0 := by
    unfold spErr at hE
    split at hE
    · assumption
    · rename_i h'; exact absurd hE h'
  obtain ⟨hl12, hfit⟩ := parts_zero hpe
  have HCL := Lib.hid (cN_le hfit)
  have HDL := Lib.hid (dN_le hfit hl12)
  have hn12 : n ≤ 12 := by rw [← HL.out]; exact hl12
  have HFIT := Lib.hid hfit
  have HNS : Hid (∀ o ∈ os, o.ns.length = o.n2) := Lib.hid (fun o ho => (h.2 o ho).rd.ns.len)
  have HPL := Lib.hid (pre_len hfit HNS.out)
  have HsL : Hid (spL os = spC (cI os os.length) (dI os os.length) os.length) := Lib.hid (by unfold spL; rw [if_pos hE])
  have HsN : Hid (spN os = n) := Lib.hid (by unfold spN; rw [if_pos hE, HL.out])
  rw [hE, HsL.out, HsN.out] at HS
  generalize spT os = T at *
  clear hE hpe hfit hl12 HsL HsN
  go_enter Try.func8, Try.ntmps8
  go_wp2_with fail
  refine HS.out.mono ?_
  rintro e' w3 ⟨v3, rfl, hr3, hb3⟩
  obtain ⟨AS, cS, rfl, hcS1, hcS2⟩ := hr3.shape
  have HRS := Lib.hid hr3
  have hsz3 := hb3.size
  have h3 : RO w3 B A n os := h.below' hb3 hB
  have HB3 := Lib.hid hb3
  clear HS hr3 hb3
  go_wp2
  go_loopw [7, 32] (fun v i wr => ∃ k : Nat, k ≤ n ∧ i = .int .i64 k ∧ Row wr w3.heap.size 61 4 v (entsTo os k).length ((entsTo os k).flatMap En.cells4) ∧ Below w3.heap.size w3 wr) (fun _ i _ => n - (intOf i).toNat)
  case atStart => exact ⟨0, by omega, rfl, Row.nil _ _ _ _, Below.refl _ _⟩
  case round =>
    obtain ⟨i, hi_, rfl, hr, hbw⟩ := hrel
    have hsize := hbw.size
    by_cases hlt : i < n
    · obtain ⟨b, o, x, rfl, hb, hx, hxd, hfine, z0, z1, z2, z3⟩ := (h3.below' hbw (by omega)).at_ hlt
      have hsp := spot_lt HRS.out hlt
      obtain ⟨gs, os_, rfl, hgs, _, _, hcells⟩ := hsp
      have ks0 := (hcells (i * 2) _ (spC_even _ _ (by rw [HL.out]; exact hlt)))
      have ks1 := (hcells (i * 2 + 1) _ (spC_odd _ _ (by rw [HL.out]; exact hlt)))
      have hci : cI os os.length i = (cN os i : Nat) := by unfold cI; rw [if_pos (by rw [HL.out]; exact hlt)]
      have hdi : dI os os.length i = (dN os i : Nat) := by unfold dI; rw [if_pos (by rw [HL.out]; exact hlt)]
      rw [hci] at ks0
      rw [hdi, ← Nat.add_assoc] at ks1
      have hcl := HCL.out i (by rw [HL.out]; omega)
      have hdl := HDL.out i (by rw [HL.out]; omega)
      have hfx := HFIT.out x (List.mem_of_getElem? hx)
      have HPF := Lib.hid hfx.ns
      have hx2 := hfx.n2
      have HNX := Lib.hid (HNS.out x (List.mem_of_getElem? hx))
      have HPA := Lib.hid (pre_all hxd)
      have hrn := (h3.2 x (List.mem_of_getElem? hx)).rd.ns
      have HAO : Hid (∀ y : Nm, (if y.wh = 1 then (cN os i : Int) else (dN os i : Int)) + y.ad = adOf os i y) := Lib.hid (fun y => rfl)
      have hr1 := hr.alloc (.cells #[.slice x.A0 x.n0 x.c0, .slice x.A1 x.n1 x.c1, .slice x.A2 x.n2 x.c2, .slice x.A3 x.n3 x.c3] 51)
      have hbw1 := hbw.alloc hsize (.cells #[.slice x.A0 x.n0 x.c0, .slice x.A1 x.n1 x.c1, .slice x.A2 x.n2 x.c2, .slice x.A3 x.n3 x.c3] 51)
      rw [← pre_zero os i x] at hr1
      have HP0 := HPL.out i (by rw [HL.out]; omega)
      have HPZ : Hid (∀ k, (preOf os i k x).length ≤ 24 * i + k) := Lib.hid (fun k => by unfold preOf; rw [List.length_append, List.length_take]; omega)
      have HRN := Lib.hid hrn
      have HPSU := Lib.hid (fun k (hk : k < x.n2) => pre_succ (os := os) (i := i) (x := x) (k := k) (by rw [HNX.out]; exact hk))
      have HMX := Lib.hid (fun k (hk : k < x.n2) => (show x.ns.getD k .zero ∈ x.ns by
        have hl : k < x.ns.length := by rw [HNX.out]; exact hk
        simp [List.getD, List.getElem?_eq_getElem hl]))
      obtain ⟨PP, hPP⟩ : ∃ PP : Nat → List En, ∀ k, preOf os i k x = PP k := ⟨_, fun _ => rfl⟩
      simp only [hPP] at HPA HPZ HPSU hr1
      clear hPP
      generalize (cN os i : Nat) = cn at *
      generalize (dN os i : Nat) = dn at *
      clear hfine hfx hci hdi hx hcells hrn HCL HDL hr hbw
      obtain ⟨A0, n0, c0, A1, n1, c1, A2, n2, c2, A3, n3, c3, ns, ds⟩ := x
      dsimp only at z0 z1 z2 z3 hx2 HNX HPA HPF HRN HPSU HMX hr1 hbw1
      obtain ⟨W0, hW⟩ : ∃ W, W = wr := ⟨_, rfl⟩
      subst hW
      go_wp2
      go_loopw [7, 40] (fun vo j wr => ∃ k : Nat, k ≤ n2 ∧ j = .int .i64 k ∧ Row wr w3.heap.size 61 4 vo (PP k).length ((PP k).flatMap En.cells4) ∧ Below w3.heap.size w3 wr) (fun _ j _ => n2 - (intOf j).toNat)
      case atStart => exact ⟨0, by omega, rfl, hr1, hbw1⟩
      case round =>
        clear hr1 hbw1
        obtain ⟨k, hk, rfl, hr, hbw⟩ := hrel
        have hsz' : w3.heap.size ≤ wr.heap.size := hbw.size
        by_cases hkl : k < n2
        rotate_left
        · obtain rfl : k = n2 := by omega
          have HPA2 : Hid (PP k = entsTo os (i + 1)) := Lib.hid (by rw [← HNX.out]; exact HPA.out)
          rw [HPA2.out] at hr
          clear HPA2
          go_wp2
          go_roundw
          case rel => exact ⟨i + 1, by omega, by go_num, hr, hbw⟩
          case measure => simp [intOf]; omega
        · obtain ⟨b2, o2, rfl, hb2, hfn, y0, y1, y2, y3⟩ := (HRN.out.below' hbw (by omega)).at_ hkl
          have hsu := HPSU.out k hkl
          have hfit := HPF.out _ (HMX.out k hkl)
          have hlen := HPZ.out k
          have HSU := Lib.hid hsu
          have hAP : ∀ E, PP (k + 1) = PP k ++ [E] → ∀ w8 v8, Row w8 w3.heap.size 61 4 v8 ((PP k).length + 1) ((PP k).flatMap En.cells4 ++ E.cells4) → Row w8 w3.heap.size 61 4 v8 (PP (k + 1)).length ((PP (k + 1)).flatMap En.cells4) := by
            intro E hE w8 v8 h8
            rw [hE]; simp only [List.length_append, List.length_cons, List.length_nil, List.flatMap_append, List.flatMap_cons, List.flatMap_nil, List.append_nil]; exact h8
          have HAP := Lib.hid (hAP _ hsu)
          clear hsu hAP HPSU HPA HPZ
          generalize PP k = pre at *
          generalize ns.getD k .zero = nm at *
          obtain ⟨s, wh, ad, wk⟩ := nm
          obtain ⟨hwh, had⟩ := hfit
          obtain ⟨hs, hwhf, hadf⟩ := hfn
          dsimp only at y0 y1 y2 y3 hwh had hs hwhf hadf
          have hao := HAO.out ⟨s, wh, ad, wk⟩
          dsimp only at hao
          rw [show enOf os i ⟨s, wh, ad, wk⟩ = ⟨s, i, adOf os i ⟨s, wh, ad, wk⟩, wk⟩ from rfl] at HAP
          have hao2 : 0 ≤ adOf os i ⟨s, wh, ad, wk⟩ ∧ adOf os i ⟨s, wh, ad, wk⟩ ≤ 100000 := by rw [← hao]; split <;> omega
          have HAOE := Lib.hid hao
          have hr2 := (hr.alloc (.cells #[.string s, .int .i64 wh, .int .i64 ad, .bool wk] 56))
          have hbw2 := hbw.alloc hsz' (.cells #[.string s, .int .i64 wh, .int .i64 ad, .bool wk] 56)
          have hks0 := (hbw2.cell (p := ⟨gs, os_ + i * 2, none⟩) hgs).trans ks0
          have hks1 := (hbw2.cell (p := ⟨gs, os_ + i * 2 + 1, none⟩) hgs).trans ks1
          have hgs2 : gs < wr.heap.size := by omega
          obtain ⟨A7, c7, hv7, hc71, hc72⟩ := hr.shape
          subst hv7
          have hob := hr.lt
          clear hao hr hbw
          generalize adOf os i ⟨s, wh, ad, wk⟩ = ao at *
          generalize pre.flatMap En.cells4 = oc at *
          generalize pre.length = ol at *
          by_cases hw1 : wh = 1
          · have e2 : (wh == 2) = false := by simp; omega
            have hae : (cn : Int) + ad = ao := by rw [← HAOE.out, if_pos hw1]
            clear hwh hw1
            go_wp2_with (at_builtin; refine wpList_append_row _ rfl (.tmp 57) (.tmp 69) 59 rfl w3.heap.size 61 i9 (.agg #[.string ByteArray.empty, .int .i64 0, .int .i64 0, .bool false]) 4 40 Try.underlying59 hi9 hy0 hy1 hy2 rfl (by decide) (.slice A7 ol c7) ol oc rfl (hr2.alloc _) (wr.heap.size + 1 + 1) (some ⟨wr.heap.size + 1, 0, none⟩) 1 1 (En.cells4 ⟨s, i, ao, wk⟩) rfl (by have := bp_reads (wr.alloc (.cells #[.string s, .int .i64 wh, .int .i64 ad, .bool wk] 56)) 61 4 1 (En.cells4 ⟨s, i, ao, wk⟩) rfl; simpa [hae, En.cells4] using this) (one_en4 _) (by unfold maxLen; omega) (by omega) (by simp; omega) ?_)
            intro A8 c8 w8 hr8 hg8 ho8
            have hb8 : Below w3.heap.size w3 w8 := (hbw2.alloc hbw2.size _).grown hg8 (hbw2.alloc hbw2.size _).size (fun k hk => (hob k hk).1)
            clear hg8 ho8 hr2 hbw2 hks0 hks1
            go_wp2
            go_roundw
            case rel => exact ⟨k + 1, by omega, by go_num, HAP.out w8 _ hr8, hb8⟩
            case measure => simp [intOf]; omega
          · have hw2 : wh = 2 := by omega
            have e2 : (wh == 2) = true := by simpa using hw2
            have hae : (dn : Int) + ad = ao := by rw [← HAOE.out, if_neg hw1]
            clear hwh hw1 hw2
            go_wp2_with (at_builtin; refine wpList_append_row _ rfl (.tmp 57) (.tmp 69) 59 rfl w3.heap.size 61 i9 (.agg #[.string ByteArray.empty, .int .i64 0, .int .i64 0, .bool false]) 4 40 Try.underlying59 hi9 hy0 hy1 hy2 rfl (by decide) (.slice A7 ol c7) ol oc rfl (hr2.alloc _) (wr.heap.size + 1 + 1) (some ⟨wr.heap.size + 1, 0, none⟩) 1 1 (En.cells4 ⟨s, i, ao, wk⟩) rfl (by have := bp_reads (wr.alloc (.cells #[.string s, .int .i64 wh, .int .i64 ad, .bool wk] 56)) 61 4 1 (En.cells4 ⟨s, i, ao, wk⟩) rfl; simpa [hae, En.cells4] using this) (one_en4 _) (by unfold maxLen; omega) (by omega) (by simp; omega) ?_)
            intro A8 c8 w8 hr8 hg8 ho8
            have hb8 : Below w3.heap.size w3 w8 := (hbw2.alloc hbw2.size _).grown hg8 (hbw2.alloc hbw2.size _).size (fun k hk => (hob k hk).1)
            clear hg8 ho8 hr2 hbw2 hks0 hks1
            go_wp2
            go_roundw
            case rel => exact ⟨k + 1, by omega, by go_num, HAP.out w8 _ hr8, hb8⟩
            case measure => simp [intOf]; omega
    · obtain rfl : i = n := by omega
      have e : Hid (entsTo os i = ents os) := Lib.hid (by unfold ents; rw [HL.out])
      have hNl := HPL.out i (by rw [HL.out]; omega)
      rw [e.out] at hr hNl
      obtain ⟨A7, c7, hv7, hc71, hc72⟩ := hr.shape
      subst hv7
      have HALL0 : RS En.cells4 4 wr wr.heap.size A7 (ents os).length (ents os) := ⟨hr.reads, rfl⟩
      have hfin0 := HB3.out.trans (hbw.mono hsz3)
      have HFN := Lib.hid (ents_fine (os := os) (fun o ho y hy => ((h.2 o ho).rd.ns.2 y hy).1))
      clear hr e HPL HNS HFIT HDL HCL HRS h3
      generalize hall : ents os = all at *
      have HALLE := Lib.hid hall
      clear hall
      obtain ⟨N, hN⟩ : ∃ N, N = all.length := ⟨_, rfl⟩
      rw [← hN] at hNl HALL0 hc71 ⊢
      have HN := Lib.hid hN
      clear hN
      have HALL := Lib.hid HALL0
      obtain ⟨W1, hW⟩ : ∃ W, W = wr := ⟨_, rfl⟩
      subst hW
      have HW1 := Lib.hid hfin0
      have hszw := hfin0.size
      clear HALL0 hfin0 hbw
      go_wp2
      go_loopw [13, 76] (fun v a wr => ∃ (k m : Nat) (l : List (List UInt8)), k ≤ N ∧ m ≤ k ∧ a = .int .i64 k ∧ TextSet Try.prog wr 9 4 W1.heap.size m l ∧ Hid (∀ z, l.contains z = (keysOf (all.take k)).contains z) ∧ Row wr (W1.heap.size + 1) 33 3 v (gath all k).length ((gath all k).flatMap En.cells) ∧ Hid (okTo all k) ∧ Below W1.heap.size W1 wr) (fun _ a _ => N - (intOf a).toNat)
      case atStart => exact ⟨0, 0, [], by omega, by omega, rfl, TextSet.made _ _ _ _, Lib.hid (fun z => by simp [keysOf]), Row.nil _ _ _ _, Lib.hid (fun y hy => by simp at hy), (Below.refl _ _).alloc (Nat.le_refl _) _⟩
      case round =>
        obtain ⟨k, m, l, hk, hmk, rfl, hts, hmem, hr, hok, hlo⟩ := hrel
        have hsz1 := hlo.size
        by_cases hkN : k < N
        rotate_left
        · obtain rfl : k = N := by omega
          have hd : Hid (plErr os = 0) := Lib.hid (by rw [HE.out, okTo_all (by rw [← HN.out]; exact hok.out)]; rfl)
          have hge : Hid (gath all k = outOf all) := Lib.hid (by rw [HN.out]; exact gath_all all)
          rw [hge.out] at hr
          have hr9 := Lib.hid (hr.base_le (base' := w.heap.size) (by omega))
          have hfin := Lib.hid (HW1.out.trans (hlo.mono hszw))
          have HG := Lib.hid (PlPost.good (v := _) hd.out (by rw [HALLE.out]; exact hr9.out) hfin.out)
          clear hr hlo hok hge hmem hts hr9 hfin hd
          go_wp2
          go_ret2
          exact HG.out
        · obtain ⟨b, o, x, rfl, hb, hx, z0, z1, z2, z3⟩ := rs_at4 (⟨HALL.out.1.below' hlo (Nat.le_refl _), HALL.out.2⟩ : RS En.cells4 4 wr W1.heap.size A7 N all) hkN
          have hms : x.s.size ≤ maxLen := HFN.out x (List.mem_of_getElem? hx)
          have hbx : Blk (wr.alloc (.cells #[.string x.s, .int .i64 x.part, .int .i64 x.ad, .bool x.wk] 61)) wr.heap.size #[.string x.s, .int .i64 x.part, .int .i64 x.ad, .bool x.wk] 61 := Blk.new _ _ _
          have hts2 := hts.alloc (.cells #[.string x.s, .int .i64 x.part, .int .i64 x.ad, .bool x.wk] 61)
          have hr2 := hr.alloc (.cells #[.string x.s, .int .i64 x.part, .int .i64 x.ad, .bool x.wk] 61)
          have hlo2 := hlo.alloc hsz1 (.cells #[.string x.s, .int .i64 x.part, .int .i64 x.ad, .bool x.wk] 61)
          have hl := hts2.run_lookup Try.underlying9 Try.underlying4 Try.underlying54 (zero4 _) hms
          have htl := hts.lt
          clear hts hr hlo
          cases hct : l.contains x.s.data.toList with
          | true =>
            have hmt : (keysOf (all.take k)).contains x.key = true := (hmem.out x.key).symm.trans hct
            have hg := Lib.hid (gath_old hx hmt)
            have hmem2 : Hid (∀ z, l.contains z = (keysOf (all.take (k + 1))).contains z) := Lib.hid (fun z => by
              rw [hmem.out z, take_snoc_en hx]
              have e : keysOf (all.take k ++ [x]) = keysOf (all.take k) ++ [x.key] := by simp [keysOf]
              rw [e]
              by_cases hz : z = x.key
              · subst hz; rw [hmt]; simp
              · simp [hz])
            have hok2 := Lib.hid (okTo_met hx hok.out hmt)
            rw [hct] at hl
            clear hmt hx
            go_wp2
            go_roundw
            case rel => exact ⟨k + 1, m, l, by omega, by omega, by go_num, hts2, hmem2, by rw [hg.out]; exact hr2, hok2, hlo2⟩
            case measure => simp [intOf]; omega
          | false =>
            rw [hct] at hl
            have hmt : (keysOf (all.take k)).contains x.key = false := (hmem.out x.key).symm.trans hct
            have hg := Lib.hid (gath_new hx hmt)
            have hgl := gath_len all k
            rw [← HN.out] at hgl
            obtain ⟨w6, hr6, hts6, hg6⟩ := hts2.update Try.underlying9 Try.underlying4 Try.underlying54 (by unfold maxLen; omega) hms
            have hmem2 : Hid (∀ z, (l ++ [x.s.data.toList]).contains z = (keysOf (all.take (k + 1))).contains z) := Lib.hid (fun z => by
              rw [take_snoc_en hx]
              have e : keysOf (all.take k ++ [x]) = keysOf (all.take k) ++ [x.key] := by simp [keysOf]
              have e2 : x.s.data.toList = x.key := rfl
              have e3 := hmem.out z
              rw [Bool.eq_iff_iff] at e3 ⊢
              rw [e, e2]
              simp at e3 ⊢
              rw [e3])
            have hbx6 := hbx.grown hg6 (by intro e; injection e with e; omega)
            have hrow6 := hr2.grown hg6 (fun k hk e => by have := (hr2.lt k hk).1; injection e with e; omega)
            have hlo6 : Below W1.heap.size W1 w6 := hlo2.grown hg6 hlo2.size (fun k hk => by injection hk with hk; omega)
            have hOK := Lib.hid (fun h' => okTo_next hx hok.out h')
            have hBA := Lib.hid (show bestOf (all.take N) x = bestOf all x by rw [HN.out, List.take_length])
            have hSA := Lib.hid (show strongs (all.take N) x.key = strongs all x.key by rw [HN.out, List.take_length])
            have hB0 : Hid (bestOf (all.take 0) x = x) := Lib.hid (by simp [bestOf, strongs])
            have hS0 : Hid ((strongs (all.take 0) x.key).length = 0) := Lib.hid (by simp [strongs])
            have hDup := Lib.hid (fun h' : 1 < (strongs all x.key).length => (dup_iff all).2 ⟨x.key, h'⟩)
            clear hmt hx hts2 hr2 hlo2 hg6 hmem hok hct
            have hc6 := hbx6.cell
            have hl6 := hbx6.lt
            have hsz6 := hlo6.size
            obtain ⟨W2, hW⟩ : ∃ W, W = wr := ⟨_, rfl⟩
            subst hW
            obtain ⟨g6, hgg⟩ : ∃ g, g = w6.heap.size := ⟨_, rfl⟩
            have hl6' : W2.heap.size < g6 := by omega
            have hbest : Blk (w6.alloc (.cells #[.string x.s, .int .i64 x.part, .int .i64 x.ad] 33)) g6 #[.string x.s, .int .i64 x.part, .int .i64 x.ad] 33 := by rw [hgg]; exact Blk.new _ _ _
            have hb60 : Below g6 w6 (w6.alloc (.cells #[.string x.s, .int .i64 x.part, .int .i64 x.ad] 33)) := by rw [hgg]; exact (Below.refl _ _).alloc (Nat.le_refl _) _
            have hgs : g6 ≤ w6.heap.size := by omega
            have hgs2 : w6.heap.size ≤ g6 := by omega
            go_wp2
            rw [← hgg]
            go_loopw [18, 93] (fun st a wr => ∃ (j : Nat) (e : En), j ≤ N ∧ a = .int .i64 j ∧ st = .int .i64 ((strongs (all.take j) x.key).length : Nat) ∧ Blk wr g6 #[.string e.s, .int .i64 e.part, .int .i64 e.ad] 33 ∧ Hid (e = bestOf (all.take j) x) ∧ Below g6 w6 wr) (fun _ a _ => N - (intOf a).toNat)
            case atStart => exact ⟨0, x, by omega, rfl, by rw [hS0.out]; rfl, hbest, Lib.hid hB0.out.symm, hb60⟩
            case round =>
              clear hbest hc6 hl6 hb60 hgg
              obtain ⟨j, e, hj, rfl, rfl, hbe, hE, hbl⟩ := hrel
              have hsz7 := hbl.size
              have hbx7 : Blk wr W2.heap.size #[.string x.s, .int .i64 x.part, .int .i64 x.ad, .bool x.wk] 61 := hbx6.fr (Fr.of_below hbl) (fun h => by omega)
              have hlo7 : Below W1.heap.size W1 wr := hlo6.trans (hbl.mono (by omega))
              have hcx := hbx7.cell
              have hlx := hbx7.lt
              have hcb := hbe.cell
              have hfb := hbe.free
              have hlb := hbe.lt
              by_cases hjN : j < N
              · obtain ⟨b9, o9, y, e9, hb9, hy, y0, y1, y2, y3⟩ := rs_at4 (⟨HALL.out.1.below' hlo7 (Nat.le_refl _), HALL.out.2⟩ : RS En.cells4 4 wr W1.heap.size _ N all) hjN
                obtain ⟨rfl, rfl⟩ : b9 = b ∧ o9 = o := by injection e9 with e9; injection e9 with e1 e2; exact ⟨e1.symm, e2.symm⟩
                clear e9
                have hcs := Lib.hid (count_snoc all (x := x) hy)
                have hbs := Lib.hid (best_snoc all (x := x) hy)
                have hcn := strongs_count all x.key j
                have hlw := hlo7.size
                have hn1 : ¬ g6 = wr.heap.size := by omega
                have hn2 : ¬ wr.heap.size = g6 := by omega
                have hn3 : ¬ W2.heap.size = wr.heap.size := by omega
                have hn4 : ¬ W2.heap.size = g6 := by omega
                have hbe2 := hbe.alloc (.cells #[.string y.s, .int .i64 y.part, .int .i64 y.ad, .bool y.wk] 61)
                have hbl2 := hbl.alloc (Nat.le_trans hgs hbl.size) (.cells #[.string y.s, .int .i64 y.part, .int .i64 y.ad, .bool y.wk] 61)
                have hke : (y.s.toList == x.s.toList) = decide (y.key = x.key) := bp_key_eq
                clear hy
                obtain ⟨ys, yp, ya, yw⟩ := y
                dsimp only at y0 y1 y2 y3 hbe2 hbl2 hke
                by_cases hk1 : (⟨ys, yp, ya, yw⟩ : En).key = x.key
                · rw [decide_eq_true hk1] at hke
                  cases yw with
                  | false =>
                    have hcs' : Hid ((strongs (all.take (j + 1)) x.key).length = (strongs (all.take j) x.key).length + 1) := Lib.hid (hcs.out.trans (by rw [if_pos ⟨hk1, rfl⟩]))
                    have hbs' : Hid ((⟨ys, yp, ya, false⟩ : En) = bestOf (all.take (j + 1)) x) := Lib.hid (hbs.out.trans (by rw [if_pos ⟨hk1, rfl⟩])).symm
                    have hbe3 := (((hbe.set 0 (.string ys)).set 1 (.int .i64 yp)).set 2 (.int .i64 ya)).alloc (.cells #[.string ys, .int .i64 yp, .int .i64 ya, .bool false] 61)
                    have HBE3 : Hid (Blk ((((wr.setCell ⟨g6, 0, none⟩ (.string ys)).setCell ⟨g6, 1, none⟩ (.int .i64 yp)).setCell ⟨g6, 2, none⟩ (.int .i64 ya)).alloc (.cells #[.string ys, .int .i64 yp, .int .i64 ya, .bool false] 61)) g6 #[.string ys, .int .i64 yp, .int .i64 ya] 33) := Lib.hid (by simpa using hbe3)
                    have HBL3 := Lib.hid ((((hbl.setCell (p := ⟨g6, 0, none⟩) (Nat.le_refl _) (.string ys)).setCell (p := ⟨g6, 1, none⟩) (Nat.le_refl _) (.int .i64 yp)).setCell (p := ⟨g6, 2, none⟩) (Nat.le_refl _) (.int .i64 ya)).alloc (by simp; omega) (.cells #[.string ys, .int .i64 yp, .int .i64 ya, .bool false] 61))
                    clear hbe3 hbe2 hbl2 hk1 hcs hbs hbe hbl
                    go_wp2
                    go_roundw
                    case rel => exact ⟨j + 1, ⟨ys, yp, ya, false⟩, by omega, by go_num, by rw [hcs'.out]; go_num, HBE3.out, hbs', HBL3.out⟩
                    case measure => simp [intOf]; omega
                  | true =>
                    have hcs' : Hid ((strongs (all.take (j + 1)) x.key).length = (strongs (all.take j) x.key).length) := Lib.hid (hcs.out.trans (by simp))
                    have hbs' : Hid (e = bestOf (all.take (j + 1)) x) := Lib.hid (hE.out.trans (hbs.out.trans (by simp)).symm)
                    clear hk1 hcs hbs hbe hbl
                    go_wp2
                    go_roundw
                    case rel => exact ⟨j + 1, e, by omega, by go_num, by rw [hcs'.out], hbe2, hbs', hbl2⟩
                    case measure => simp [intOf]; omega
                · rw [decide_eq_false hk1] at hke
                  have hcs' : Hid ((strongs (all.take (j + 1)) x.key).length = (strongs (all.take j) x.key).length) := Lib.hid (hcs.out.trans (by rw [if_neg (fun h' => hk1 h'.1)]; rfl))
                  have hbs' : Hid (e = bestOf (all.take (j + 1)) x) := Lib.hid (hE.out.trans (hbs.out.trans (by rw [if_neg (fun h' => hk1 h'.1)])).symm)
                  clear hk1 hcs hbs hbe hbl
                  go_wp2
                  go_roundw
                  case rel => exact ⟨j + 1, e, by omega, by go_num, by rw [hcs'.out], hbe2, hbs', hbl2⟩
                  case measure => simp [intOf]; omega
              · obtain rfl : j = N := by omega
                have hbest := hE.out.trans hBA.out
                rw [hSA.out]
                have hts7 := hts6.fr (Fr.of_below hbl) (fun h => by omega)
                have hrow7 := hrow6.fr (Fr.of_below hbl) (fun k hk h => by have := (hrow6.lt k hk).2; omega)
                have hcount : Hid ((strongs all x.key).length ≤ j) := Lib.hid (by rw [← hSA.out]; exact strongs_count all x.key j)
                by_cases hs1 : 1 < (strongs all x.key).length
                · have hp : Hid (plErr os = 5) := Lib.hid (by rw [HE.out, hDup.out hs1]; rfl)
                  have hd : decide (1 < ((strongs all x.key).length : Int)) = true := by simp; omega
                  have hfin : Hid (Below w.heap.size w wr) := Lib.hid (HW1.out.trans (hlo7.mono hszw))
                  clear hs1
                  generalize (strongs all x.key).length = cnt at *
                  go_wp2
                  go_ret2
                  exact PlPost.bad hp.out (by omega) hfin.out
                · have hd : decide (1 < ((strongs all x.key).length : Int)) = false := by simp; omega
                  have hok2 := Lib.hid (hOK.out (by omega))
                  have HAP := Lib.hid (fun w8 v8 (h8 : Row w8 (W1.heap.size + 1) 33 3 v8 ((gath all k).length + 1) ((gath all k).flatMap En.cells ++ e.cells)) => (show Row w8 (W1.heap.size + 1) 33 3 v8 (gath all (k + 1)).length ((gath all (k + 1)).flatMap En.cells) by
                    rw [hg.out, ← hbest]; simp only [List.length_append, List.length_cons, List.length_nil, List.flatMap_append, List.flatMap_cons, List.flatMap_nil, List.append_nil]; exact h8))
                  obtain ⟨A8, c8, hv8, hc81, hc82⟩ := hrow7.shape
                  subst hv8
                  have hob := hrow7.lt
                  have hlw := hlo7.size
                  clear hs1 hbest hE hbl hbx7 hcx hlx hrow6 hts6
                  generalize (strongs all x.key).length = cnt at *
                  generalize (gath all k).flatMap En.cells = oc at *
                  generalize (gath all k).length = ol at *
                  go_wp2_with (at_builtin; refine wpList_append_row _ rfl (.tmp 116) (.tmp 118) 27 rfl (W1.heap.size + 1) 33 i0 (.agg #[.string ByteArray.empty, .int .i64 0, .int .i64 0]) 3 32 Try.underlying27 hi hz0 hz1 hz2 rfl (by decide) (.slice A8 ol c8) ol oc rfl (hrow7.alloc _) (wr.heap.size + 1) (some ⟨wr.heap.size, 0, none⟩) 1 1 e.cells rfl (bp_reads wr 33 3 1 e.cells rfl) (one_en e) (by unfold maxLen; omega) (by omega) (by simp; have := hts7.lt; omega) ?_)
                  intro A9 c9 w9 hr9 hg9 ho9
                  have hf9 : Fr (fun k => (Value.slice A8 ol c8).ownBlock = some k) wr w9 := ((Fr.refl _ wr).alloc _).grown hg9 (fun k e _ => e)
                  have hts9 := hts7.fr hf9 (fun e => by have := (hob _ e).1; omega)
                  have hlo9 : Below W1.heap.size W1 w9 := hlo7.trans (hf9.below hlw (fun k e => by have := (hob k e).1; omega))
                  have hr9' := HAP.out w9 _ hr9
                  clear hf9 hg9 ho9 hr9
                  go_wp2
                  go_roundw
                  case rel => exact ⟨k + 1, m + 1, l ++ [x.s.data.toList], by omega, by omega, by go_num, hts9, hmem2, hr9', hok2, hlo9⟩
                  case measure => simp [intOf]; omega
end Go.Proofs.Ytmndmdipjfblhaa
