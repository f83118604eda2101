/- What parts lack (plain); contract of bind.Lacks. -/
import Derived.Test.YtplfdibbnkjckaaLkA
import Derived.Test.YtplfdibbnkjckaaTMap
import Derived.OwnWalk
namespace Go.Proofs.Ytplfdibbnkjckaa
open Go.RowKit
set_option maxHeartbeats 400000
set_option linter.unusedVariables false
set_option linter.unusedSimpArgs false
def namesOf (os : List Ob) : List (List UInt8) := os.flatMap fun o => o.ns.map Nm.key
def needsOf (os : List Ob) : List ByteArray := os.flatMap fun o => o.ds.map Nd.s
/-- A part whose names are good, and few. -/
structure GoodOb (o : Ob) : Prop where
  ns : ∀ n ∈ o.ns, Good n.key
  ds : ∀ d ∈ o.ds, Good d.key
  n2 : o.n2 ≤ 24
  n3 : o.n3 ≤ 40
theorem nms_good {lc ld : Nat} : ∀ (ns : List Nm) (seen : List (List UInt8)), nmsErr lc ld seen ns = 0 → ∀ n ∈ ns, Good n.key
  | [], _, _, n, hn => by cases hn
  | m :: ns, seen, h, n, hn => by
    unfold nmsErr at h
    split at h
    · rename_i e
      split at h
      · cases h
      · rcases List.mem_cons.1 hn with rfl | hn
        · unfold nmB at e
          rw [Bool.and_eq_true] at e
          exact good_of_name e.1
        · exact nms_good ns _ h n hn
    · cases h
theorem nds_good {lc : Nat} : ∀ (ds : List Nd) (last : Int), ndsErr lc last ds = 0 → ∀ d ∈ ds, Good d.key
  | [], _, _, d, hd => by cases hd
  | x :: ds, last, h, d, hd => by
    unfold ndsErr at h
    split at h
    · rename_i e
      rcases List.mem_cons.1 hd with rfl | hd
      · unfold ndB at e
        rw [Bool.and_eq_true] at e
        exact good_of_name e.1
      · exact nds_good ds _ h d hd
    · cases h
theorem obj_good {o : Ob} (h : objErr o = 0) : GoodOb o := by
  unfold objErr at h
  split at h
  · cases h
  · rename_i hb
    split at h
    · rename_i e; exact ⟨nms_good _ _ e, nds_good _ _ h, by omega, by omega⟩
    · rename_i e; exact absurd h e
theorem parts_good {os : List Ob} (h : partsErr os = 0) : os.length ≤ 12 ∧ ∀ o ∈ os, GoodOb o := by
  unfold partsErr at h
  split at h
  · cases h
  · exact ⟨by omega, fun o ho => obj_good (first_zero h o ho)⟩
theorem names_snoc {os : List Ob} {i : Nat} {o : Ob} (h : os[i]? = some o) : namesOf (os.take (i + 1)) = namesOf (os.take i) ++ o.ns.map Nm.key := by
  obtain ⟨hi, rfl⟩ := List.getElem?_eq_some_iff.1 h
  rw [List.take_succ_eq_append_getElem hi]
  simp only [namesOf, List.flatMap_append, List.flatMap_cons, List.flatMap_nil, List.append_nil]
theorem needs_snoc {os : List Ob} {i : Nat} {o : Ob} (h : os[i]? = some o) : needsOf (os.take (i + 1)) = needsOf (os.take i) ++ o.ds.map Nd.s := by
  obtain ⟨hi, rfl⟩ := List.getElem?_eq_some_iff.1 h
  rw [List.take_succ_eq_append_getElem hi]
  simp only [needsOf, List.flatMap_append, List.flatMap_cons, List.flatMap_nil, List.append_nil]
theorem take_map_snoc {α β : Type} (f : α → β) {l : List α} {k : Nat} {x : α} (h : l[k]? = some x) : (l.take (k + 1)).map f = (l.take k).map f ++ [f x] := by
  obtain ⟨hi, rfl⟩ := List.getElem?_eq_some_iff.1 h
  rw [List.take_succ_eq_append_getElem hi, List.map_append]
  rfl
theorem names_len {os : List Ob} (h : ∀ o ∈ os, GoodOb o) (hn : ∀ o ∈ os, o.ns.length = o.n2) : ∀ i, i ≤ os.length → (namesOf (os.take i)).length ≤ 24 * i
  | 0, _ => by simp [namesOf]
  | i + 1, hi => by
    have e : os[i]? = some os[i] := List.getElem?_eq_getElem (by omega)
    have hm : os[i] ∈ os := List.getElem_mem _
    have h1 := names_len h hn i (by omega)
    have h2 := (h _ hm).n2
    have h3 := hn _ hm
    rw [names_snoc e, List.length_append, List.length_map]; omega
theorem needs_len {os : List Ob} (h : ∀ o ∈ os, GoodOb o) (hn : ∀ o ∈ os, o.ds.length = o.n3) : ∀ i, i ≤ os.length → (needsOf (os.take i)).length ≤ 40 * i
  | 0, _ => by simp [needsOf]
  | i + 1, hi => by
    have e : os[i]? = some os[i] := List.getElem?_eq_getElem (by omega)
    have hm : os[i] ∈ os := List.getElem_mem _
    have h1 := needs_len h hn i (by omega)
    have h2 := (h _ hm).n3
    have h3 := hn _ hm
    rw [needs_snoc e, List.length_append, List.length_map]; omega
theorem lacks_len : ∀ (l : List ByteArray) (seen : List (List UInt8)), (lacksGo seen l).length ≤ l.length
  | [], _ => by simp [lacksGo]
  | x :: l, seen => by
    simp only [lacksGo]
    split
    · have := lacks_len l seen; simp; omega
    · have := lacks_len l (seen ++ [x.data.toList]); simp; omega
theorem lacks_mem : ∀ (l : List ByteArray) (seen : List (List UInt8)), ∀ s ∈ lacksGo seen l, s ∈ l
  | [], _, s, h => by simp [lacksGo] at h
  | x :: l, seen, s, h => by
    simp only [lacksGo] at h
    split at h
    · exact List.mem_cons_of_mem _ (lacks_mem l _ s h)
    · rcases List.mem_cons.1 h with rfl | h
      · exact List.mem_cons_self
      · exact List.mem_cons_of_mem _ (lacks_mem l _ s h)
def lkL (os : List Ob) : List ByteArray := if partsErr os = 0 then lacksGo (namesOf os) (needsOf os) else []
def LkPost (w : World) (os : List Ob) (e : Ending) (w' : World) : Prop :=
  ∃ v, e = .returned (.tuple #[v, .int .i64 (partsErr os)]) ∧ Row w' w.heap.size 9 1 v (lkL os).length ((lkL os).map Value.string) ∧ Below w.heap.size w w'
theorem LkPost.bad {w w' : World} {os : List Ob} {E : Int} (he : partsErr os = E) (hE : E ≠ 0) (hb : Below w.heap.size w w') : LkPost w os (.returned (.tuple #[.slice none 0 0, .int .i64 E])) w' := by
  unfold LkPost lkL
  rw [he, if_neg hE]
  exact ⟨_, rfl, Row.nil _ _ _ _, hb⟩
theorem LkPost.good {w w' : World} {os : List Ob} {v : Value} (he : partsErr os = 0) (hr : Row w' w.heap.size 9 1 v (lacksGo (namesOf os) (needsOf os)).length ((lacksGo (namesOf os) (needsOf os)).map Value.string)) (hb : Below w.heap.size w w') : LkPost w os (.returned (.tuple #[v, .int .i64 0])) w' := by
  unfold LkPost lkL
  simp only [he, if_true]
  exact ⟨_, rfl, hr, hb⟩
theorem infoStr : (Try.prog.info? 9).map (fun i => (i.zero, i.size, i.bytes)) = some (some (.string ByteArray.empty), 1, 16) := by kernel_rfl
theorem lk_reads (w : World) (t : TypeId) (s m : Nat) (xs : List Value) (hl : xs.length = m * s) : Reads (w.alloc (.cells xs.toArray t)) (w.heap.size + 1) s (some ⟨w.heap.size, 0, none⟩) m xs := by
  refine ⟨hl, fun _ => ⟨w.heap.size, 0, rfl, by omega, fun j u hu => ?_⟩⟩
  rw [(Blk.new w xs.toArray t).cell]
  simpa using hu
set_option maxHeartbeats 2000000 in
set_option maxRecDepth 100000 in
theorem lacks_any (hchk : ∀ (o : Ob) (w : World) (B : Nat), o.Read w B → B ≤ w.heap.size → Calls Try.prog 15 #[.agg o.vals] w (ErrPost w (objErr o)))
    (A : Option Addr) (n c : Nat) (os : List Ob) (w : World) (B : Nat) (h : RO w B A n os) (hB : B ≤ w.heap.size) (hn : n ≤ 9223372036854775807) : Calls Try.prog 4 #[.slice A n c] w (LkPost w os) := by
  obtain ⟨i0, hi, hz0, hz1, hz2⟩ := info_parts infoStr
  have hmm := @run_makeMap Try.prog
  have HL := Lib.hid h.len
  have HC := Lib.hid (checked_any hchk A n c os w B h hB hn)
  unfold ErrPost at HC
  by_cases hE : partsErr os = 0
  rotate_left
  · generalize hEE : partsErr os = E at *
    have e := Lib.hid hEE
    have HE := Lib.hid hE
    have d : (E != 0) = true := by simpa using hE
    clear hE hEE
    go_enter Try.func4, Try.ntmps4
    go_wp2_with fail
    refine HC.out.mono ?_
    rintro e' w3 ⟨rfl, hb3⟩
    go_wp2
    go_ret2
    exact LkPost.bad e.out HE.out hb3
  obtain ⟨hl12, hgood⟩ := parts_good hE
  have HE := Lib.hid hE
  rw [hE] at HC
  have hn12 : n ≤ 12 := by rw [← HL.out]; exact hl12
  have HG := Lib.hid hgood
  have HNN := Lib.hid (names_len hgood (fun o ho => (h.2 o ho).rd.ns.len))
  have HDD := Lib.hid (needs_len hgood (fun o ho => (h.2 o ho).rd.ds.len))
  clear hE hl12 hgood
  go_enter Try.func4, Try.ntmps4
  go_wp2_with fail
  refine HC.out.mono ?_
  rintro e' w3 ⟨rfl, hb3⟩
  have hsz3 := hb3.size
  have h3 : RO w3 B A n os := h.below' hb3 hB
  have HB3 := Lib.hid hb3
  have ht0 : TextBool Try.prog (w3.alloc (.map #[] 0)) 9 4 w3.heap.size 0 (fun z => (namesOf (os.take 0)).contains z) := by
    have := TextBool.made Try.prog w3 9 4
    exact this
  clear HC hb3
  go_wp2
  go_loopw [23] (fun i wr => ∃ k m : Nat, k ≤ n ∧ m ≤ 24 * k ∧ i = .int .i64 k ∧ TextBool Try.prog wr 9 4 w3.heap.size m (fun z => (namesOf (os.take k)).contains z) ∧ Below w3.heap.size w3 wr) (fun i _ => n - (intOf i).toNat)
  case atStart => exact ⟨0, 0, by omega, by omega, rfl, ht0, (Below.refl _ _).alloc (Nat.le_refl _) _⟩
  case round =>
    clear ht0
    obtain ⟨k, m, hk, hm, rfl, htb, hbw⟩ := hrel
    have hsw := hbw.size
    by_cases hlt : k < n
    · obtain ⟨b, o, x, rfl, hb, hx, hxd, hfine, z0, z1, z2, z3⟩ := (h3.below' hbw (by omega)).at_ hlt
      have hgx := HG.out x (List.mem_of_getElem? hx)
      have hx2 := hgx.n2
      have HNX := Lib.hid hfine.rd.ns.len
      have HRN := Lib.hid (h3.2 x (List.mem_of_getElem? hx)).rd.ns
      have HSN := Lib.hid (names_snoc hx)
      have hbw1 := hbw.alloc hsw (.cells #[.slice x.A0 x.n0 x.c0, .slice x.A1 x.n1 x.c1, .slice x.A2 x.n2 x.c2, .slice x.A3 x.n3 x.c3] 37)
      have htb1 := htb.alloc (.cells #[.slice x.A0 x.n0 x.c0, .slice x.A1 x.n1 x.c1, .slice x.A2 x.n2 x.c2, .slice x.A3 x.n3 x.c3] 37)
      obtain ⟨N0, hN0⟩ : ∃ N0, N0 = namesOf (os.take k) := ⟨_, rfl⟩
      rw [← hN0] at htb1 HSN
      have htb2 : TextBool Try.prog (wr.alloc (.cells #[.slice x.A0 x.n0 x.c0, .slice x.A1 x.n1 x.c1, .slice x.A2 x.n2 x.c2, .slice x.A3 x.n3 x.c3] 37)) 9 4 w3.heap.size m (fun z => (N0 ++ (x.ns.take 0).map Nm.key).contains z) := by simpa using htb1
      clear hfine hx hxd hgx htb hbw htb1 hN0
      obtain ⟨A0, n0, c0, A1, n1, c1, A2, n2, c2, A3, n3, c3, ns, ds⟩ := x
      dsimp only at z0 z1 z2 z3 hx2 HNX HRN HSN
      obtain ⟨W4, hW4⟩ : ∃ W4, W4 = wr := ⟨_, rfl⟩
      subst hW4
      go_wp2
      go_loopw [30] (fun j wr => ∃ q m2 : Nat, q ≤ n2 ∧ m2 ≤ m + q ∧ j = .int .i64 q ∧ TextBool Try.prog wr 9 4 w3.heap.size m2 (fun z => (N0 ++ (ns.take q).map Nm.key).contains z) ∧ Below w3.heap.size w3 wr) (fun j _ => n2 - (intOf j).toNat)
      case atStart => exact ⟨0, m, by omega, by omega, rfl, htb2, hbw1⟩
      case round =>
        clear htb2 hbw1
        obtain ⟨q, m2, hq, hm2, rfl, htb, hbw⟩ := hrel
        have hsw2 := hbw.size
        by_cases hql : q < n2
        rotate_left
        · obtain rfl : q = n2 := by omega
          have hfin := Lib.hid (show TextBool Try.prog wr 9 4 w3.heap.size m2 (fun z => (namesOf (os.take (k + 1))).contains z) by rw [HSN.out]; rw [← HNX.out, List.take_length] at htb; exact htb)
          have hbf := Lib.hid hbw
          clear htb hbw
          go_wp2
          go_roundw
          case rel => exact ⟨k + 1, m2, by omega, by omega, by go_num, hfin.out, hbf.out⟩
          case measure => simp [intOf]; omega
        · obtain ⟨b2, o2, rfl, hb2, hfn, y0, y1, y2, y3⟩ := (HRN.out.below' hbw (by omega)).at_ hql
          have hxq : ns[q]? = some (ns.getD q .zero) := by simp [List.getD, List.getElem?_eq_getElem (by rw [HNX.out]; exact hql : q < ns.length)]
          have htk := Lib.hid (take_map_snoc Nm.key hxq)
          generalize ns.getD q .zero = nm at *
          obtain ⟨s, wh, ad, wk⟩ := nm
          obtain ⟨hs, _, _⟩ := hfn
          dsimp only at y0 y1 y2 y3 hs
          have htb1 := htb.alloc (.cells #[.string s, .int .i64 wh, .int .i64 ad, .bool wk] 39)
          obtain ⟨w6, hr6, ht6, hg6⟩ := htb1.update (t := 31) Try.underlying9 Try.underlying4 Try.underlying31 (by unfold maxLen; omega) (s := s) (by unfold maxLen; omega) true
          have hb6 : Below w3.heap.size w3 w6 := (hbw.alloc hsw2 _).grown hg6 (by simp; omega) (fun k hk => by injection hk with hk; omega)
          have ht7 := Lib.hid (show TextBool Try.prog w6 9 4 w3.heap.size (m2 + 1) (fun z => (N0 ++ (ns.take (q + 1)).map Nm.key).contains z) by
            have e : (fun z => (N0 ++ (ns.take (q + 1)).map Nm.key).contains z) = (fun z => if z = s.data.toList then true else (N0 ++ (ns.take q).map Nm.key).contains z) := by
              funext z
              rw [htk.out, ← List.append_assoc]
              by_cases hz : z = s.data.toList
              · subst hz; simp [Nm.key]
              · rw [if_neg hz, Bool.eq_iff_iff]; simp [Nm.key, hz]
            rw [e]; exact ht6)
          clear hxq htb htb1 ht6 hg6 hbw
          go_wp2
          go_roundw
          case rel => exact ⟨q + 1, m2 + 1, by omega, by omega, by go_num, ht7.out, hb6⟩
          case measure => simp [intOf]; omega
    · obtain rfl : k = n := by omega
      have hfull : Hid (os.take k = os) := Lib.hid (by rw [← HL.out, List.take_length])
      rw [hfull.out] at htb
      have hNL := HNN.out k (by rw [HL.out]; exact Nat.le_refl _)
      rw [hfull.out] at hNL
      obtain ⟨N, hN⟩ : ∃ N, N = namesOf os := ⟨_, rfl⟩
      rw [← hN] at htb hNL
      have HN := Lib.hid hN
      have hm288 : m ≤ 288 := by omega
      have htb0 : TextBool Try.prog wr 9 4 w3.heap.size m (fun z => (N ++ keysB (lacksGo N (needsOf (os.take 0)))).contains z) := by simpa [needsOf, lacksGo, keysB] using htb
      have hrow0 : Row wr (w3.heap.size + 1) 9 1 (.slice none 0 0) (lacksGo N (needsOf (os.take 0))).length ((lacksGo N (needsOf (os.take 0))).map Value.string) := Row.nil _ _ _ _
      clear hN htb
      go_wp2
      go_loopw [10, 41] (fun vo i wr => ∃ k2 m : Nat, k2 ≤ k ∧ m ≤ 288 + 40 * k2 ∧ i = .int .i64 k2 ∧ TextBool Try.prog wr 9 4 w3.heap.size m (fun z => (N ++ keysB (lacksGo N (needsOf (os.take k2)))).contains z) ∧ Row wr (w3.heap.size + 1) 9 1 vo (lacksGo N (needsOf (os.take k2))).length ((lacksGo N (needsOf (os.take k2))).map Value.string) ∧ Below w3.heap.size w3 wr) (fun _ i _ => k - (intOf i).toNat)
      case atStart => exact ⟨0, m, by omega, by omega, rfl, htb0, hrow0, hbw⟩
      case round =>
        clear htb0 hrow0 hbw hsw hm hlt hk
        obtain ⟨k2, m, hk, hm, rfl, htb, hrow, hbw⟩ := hrel
        have hsw := hbw.size
        by_cases hlt : k2 < k
        rotate_left
        · obtain rfl : k2 = k := by omega
          rw [hfull.out] at hrow
          have hfin := Lib.hid (LkPost.good (w := w) HE.out (by rw [← HN.out]; exact hrow.base_le (base' := w.heap.size) (by omega)) (HB3.out.trans (hbw.mono hsz3)))
          clear htb hrow hbw
          go_wp2
          go_ret2
          exact hfin.out
        · obtain ⟨b, o, x, rfl, hb, hx, hxd, hfine, z0, z1, z2, z3⟩ := (h3.below' hbw (by omega)).at_ hlt
          have hgx := HG.out x (List.mem_of_getElem? hx)
          have hx3 := hgx.n3
          have HNX := Lib.hid hfine.rd.ds.len
          have HRN := Lib.hid (h3.2 x (List.mem_of_getElem? hx)).rd.ds
          have HSN := Lib.hid (needs_snoc hx)
          have HDL := Lib.hid (HDD.out k2 (by rw [HL.out]; omega))
          have hm3 := hfine.rd.m3
          have hbw1 := hbw.alloc hsw (.cells #[.slice x.A0 x.n0 x.c0, .slice x.A1 x.n1 x.c1, .slice x.A2 x.n2 x.c2, .slice x.A3 x.n3 x.c3] 37)
          have htb1 := htb.alloc (.cells #[.slice x.A0 x.n0 x.c0, .slice x.A1 x.n1 x.c1, .slice x.A2 x.n2 x.c2, .slice x.A3 x.n3 x.c3] 37)
          have hrow1 := hrow.alloc (.cells #[.slice x.A0 x.n0 x.c0, .slice x.A1 x.n1 x.c1, .slice x.A2 x.n2 x.c2, .slice x.A3 x.n3 x.c3] 37)
          obtain ⟨P0, hP0⟩ : ∃ P0, P0 = needsOf (os.take k2) := ⟨_, rfl⟩
          rw [← hP0] at htb1 hrow1 HSN HDL
          have e0 : P0 = P0 ++ (x.ds.take 0).map Nd.s := by simp
          rw [e0] at htb1 hrow1
          clear hfine hx hxd hgx htb hbw hrow hP0 e0
          obtain ⟨A0, n0, c0, A1, n1, c1, A2, n2, c2, A3, n3, c3, ns, ds⟩ := x
          dsimp only at z0 z1 z2 z3 hx3 HNX HRN HSN hm3
          obtain ⟨W4, hW4⟩ : ∃ W4, W4 = wr := ⟨_, rfl⟩
          subst hW4
          go_wp2
          go_loopw [10, 48] (fun vo j wr => ∃ q m2 : Nat, q ≤ n3 ∧ m2 ≤ m + q ∧ j = .int .i64 q ∧ TextBool Try.prog wr 9 4 w3.heap.size m2 (fun z => (N ++ keysB (lacksGo N (P0 ++ (ds.take q).map Nd.s))).contains z) ∧ Row wr (w3.heap.size + 1) 9 1 vo (lacksGo N (P0 ++ (ds.take q).map Nd.s)).length ((lacksGo N (P0 ++ (ds.take q).map Nd.s)).map Value.string) ∧ Below w3.heap.size w3 wr) (fun _ j _ => n3 - (intOf j).toNat)
          case atStart => exact ⟨0, m, by omega, by omega, rfl, htb1, hrow1, hbw1⟩
          case round =>
            clear htb1 hrow1 hbw1
            obtain ⟨q, m2, hq, hm2, rfl, htb, hrow, hbw⟩ := hrel
            have hsw2 := hbw.size
            by_cases hql : q < n3
            rotate_left
            · obtain rfl : q = n3 := by omega
              rw [← HNX.out, List.take_length, ← HSN.out] at htb hrow
              have hfin := Lib.hid htb
              have hbf := Lib.hid hbw
              have hrf := Lib.hid hrow
              clear htb hbw hrow
              go_wp2
              go_roundw
              case rel => exact ⟨k2 + 1, m2, by omega, by omega, by go_num, hfin.out, hrf.out, hbf.out⟩
              case measure => simp [intOf]; omega
            · obtain ⟨b2, o2, rfl, hb2, hfn, y0, y1, y2⟩ := (HRN.out.below' hbw (by omega)).at_ hql
              have hxq : ds[q]? = some (ds.getD q .zero) := by simp [List.getD, List.getElem?_eq_getElem (by rw [HNX.out]; exact hql : q < ds.length)]
              have htk := take_map_snoc Nd.s hxq
              have hmlt := htb.lt
              have hll := lacks_len (P0 ++ (ds.take q).map Nd.s) N
              rw [List.length_append, List.length_map, List.length_take] at hll
              have hd0 := HDL.out
              generalize ds.getD q .zero = nd at *
              obtain ⟨ad, s, kd⟩ := nd
              obtain ⟨hs, _, _⟩ := hfn
              dsimp only at y0 y1 y2 hs htk
              have hls := lacksGo_snoc s (P0 ++ (ds.take q).map Nd.s) N
              rw [List.append_assoc, ← htk] at hls
              have HLS := Lib.hid hls
              have htb1 := htb.alloc (.cells #[.int .i64 ad, .string s, .int .i64 kd] 41)
              have hrow1 := hrow.alloc (.cells #[.int .i64 ad, .string s, .int .i64 kd] 41)
              have hbw1 := hbw.alloc hsw2 (.cells #[.int .i64 ad, .string s, .int .i64 kd] 41)
              have hlk := htb1.run_lookup (t := 31) Try.underlying9 Try.underlying4 Try.underlying31 (zero4 _) (s := s) (by unfold maxLen; omega)
              obtain ⟨Lq, hLq⟩ : ∃ Lq, Lq = lacksGo N (P0 ++ (ds.take q).map Nd.s) := ⟨_, rfl⟩
              rw [← hLq] at hlk htb1 hrow1 hll HLS
              have hLl : Lq.length ≤ 520 := by omega
              clear hls hxq htk htb hrow hbw hLq
              cases hct : (N ++ keysB Lq).contains s.data.toList with
              | true =>
                have hst := Lib.hid (show lacksGo N (P0 ++ (ds.take (q + 1)).map Nd.s) = Lq by rw [HLS.out, if_pos hct])
                rw [hct] at hlk
                have HT := Lib.hid htb1
                have HRo := Lib.hid hrow1
                have HBo := Lib.hid hbw1
                clear hct htb1 hrow1 hbw1
                go_wp2
                go_roundw
                case rel => exact ⟨q + 1, m2, by omega, by omega, by go_num, by rw [hst.out]; exact HT.out, by rw [hst.out]; exact HRo.out, HBo.out⟩
                case measure => simp [intOf]; omega
              | false =>
                have hst := Lib.hid (show lacksGo N (P0 ++ (ds.take (q + 1)).map Nd.s) = Lq ++ [s] by rw [HLS.out, if_neg (by rw [hct]; simp)])
                rw [hct] at hlk
                obtain ⟨w6, hr6, ht6, hg6⟩ := htb1.update (t := 31) Try.underlying9 Try.underlying4 Try.underlying31 (by unfold maxLen; omega) (s := s) (by unfold maxLen; omega) true
                have hb6 : Below w3.heap.size w3 w6 := hbw1.grown hg6 (by simp; omega) (fun k hk => by injection hk with hk; omega)
                have ht7 := Lib.hid (show TextBool Try.prog w6 9 4 w3.heap.size (m2 + 1) (fun z => (N ++ keysB (Lq ++ [s])).contains z) by
                  have e : (fun z => (N ++ keysB (Lq ++ [s])).contains z) = (fun z => if z = s.data.toList then true else (N ++ keysB Lq).contains z) := by
                    funext z
                    by_cases hz : z = s.data.toList
                    · subst hz; simp [keysB]
                    · rw [if_neg hz, Bool.eq_iff_iff]; simp [keysB, hz]
                  rw [e]; exact ht6)
                have hrow6 := hrow1.grown hg6 (fun k hk e => by have := (hrow1.lt k hk).1; injection e with e; omega)
                have hbx := (Blk.new wr #[.int .i64 ad, .string s, .int .i64 kd] 41).grown hg6 (by intro e; injection e with e; omega)
                have hbc := hbx.cell
                have hbl := hbx.lt
                have hs6 := hb6.size
                have hob := Lib.hid hrow6.lt
                clear hct htb1 hrow1 hbw1 ht6 hg6
                generalize hlen : Lq.length = ll at *
                have HLEN := Lib.hid hlen
                clear hlen
                obtain ⟨A7, c7, hv7, hc71, hc72⟩ := hrow6.shape
                subst hv7
                go_wp2_with (at_builtin; refine wpList_append_row _ rfl (.tmp 60) (.tmp 63) 23 rfl (w3.heap.size + 1) 9 i0 (.string ByteArray.empty) 1 16 Try.underlying23 hi hz0 hz1 hz2 rfl (by decide) (.slice A7 ll c7) ll (Lq.map Value.string) rfl (hrow6.alloc _) (w6.heap.size + 1) (some ⟨w6.heap.size, 0, none⟩) 1 1 [.string s] rfl (lk_reads w6 9 1 1 [.string s] rfl) (by simp [Value.oneCell']) (by unfold maxLen; omega) (by omega) (by simp; have := ht7.out.lt; omega) ?_)
                intro A8 c8 w8 hr8 hg8 ho8
                have hf8 : Fr (fun k => (Value.slice A7 ll c7).ownBlock = some k) w6 w8 := ((Fr.refl _ w6).alloc _).grown hg8 (fun k e _ => e)
                have ht8 := Lib.hid (ht7.out.fr hf8 (fun e => by have := (hob.out _ e).1; omega))
                have hb8 : Below w3.heap.size w3 w8 := hb6.trans (hf8.below hs6 (fun k e => by have := (hob.out _ e).1; omega))
                have HR8 := Lib.hid (show Row w8 (w3.heap.size + 1) 9 1 (.slice A8 (ll + 1) c8) (Lq ++ [s]).length ((Lq ++ [s]).map Value.string) by
                  rw [List.length_append, HLEN.out, List.map_append]; exact hr8)
                have hb9 := Lib.hid hb8
                clear hr8 hg8 ho8 hf8 hb8 hbc hbx hrow6
                go_wp2
                go_roundw
                case rel => exact ⟨q + 1, m2 + 1, by omega, by omega, by go_num, by rw [hst.out]; exact ht8.out, by rw [hst.out]; exact HR8.out, hb9.out⟩
                case measure => simp [intOf]; omega
end Go.Proofs.Ytplfdibbnkjckaa
