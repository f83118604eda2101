/- Contract of ringref4.RefReach. -/
import Derived.Test.YtmfalafolpfhiaaRrF
import Derived.Test.YtmfalafolpfhiaaRrS
namespace Go.Proofs.Ytmfalafolpfhiaa
open Go.RowKit Go.Maps
set_option maxHeartbeats 400000
set_option linter.unusedVariables false
set_option linter.unusedSimpArgs false
theorem NSet.grown {w w' : World} {b n : Nat} {f : Nat → Bool} (h : NSet w b n f) {row : Option Nat} (hg : w.grownBy w' row) (hr : row ≠ some b) : NSet w' b n f := h.fr (Fr.of_grown hg) (fun e => hr e)
theorem unmet_set_le {f : Nat → Bool} {o : Nat} : unmet (setB f o) ≤ unmet f := by
  unfold unmet
  refine (List.Sublist.length_le ?_)
  have : (List.range 64).filter (fun k => !setB f o k) = ((List.range 64).filter (fun k => !f k)).filter (fun k => !decide (k = o)) := by
    rw [List.filter_filter]
    apply List.filter_congr
    intro k _
    unfold setB
    split <;> simp [*]
  rw [this]
  exact List.filter_sublist
/-- Closed under the first k edges. -/
def ClosedTo (es : List (Int × Int)) (f : Nat → Bool) (k : Nat) : Prop := ∀ j, j < k → Mk64 f (es.getD j (0, 0)).1 → Mk64 f (es.getD j (0, 0)).2
def boolV : Value → Nat
  | .bool true => 1
  | _ => 0
theorem closed_all {es : List (Int × Int)} {f : Nat → Bool} (h : ClosedTo es f es.length) : ∀ e ∈ es, Mk64 f e.1 → Mk64 f e.2 := all_at (p := fun e => Mk64 f e.1 → Mk64 f e.2) h
set_option maxHeartbeats 2000000 in
set_option maxRecDepth 100000 in
theorem refReach_any (A A' : Option Addr) (n c n' c' : Nat) (es : List (Int × Int)) (fs : List Int) (w : World) (B B' : Nat) (h : RE w B A n es) (h' : RD w B' A' n' fs) (hB : B ≤ w.heap.size) (hB' : B' ≤ w.heap.size)
    (hn : n ≤ 8796093022208) (hn' : n' ≤ 17592186044416) :
    Calls Try.prog 7 #[.slice A n c, .slice A' n' c'] w (ReachPost w es fs) := by
  have HL := Lib.hid h.2
  have HL' := Lib.hid h'.len
  obtain ⟨i0, hi, hz0, hz1, hz2⟩ := info_parts Try.infoI
  have hmk : ∀ W : World, (Instr.makeMap 41 none).run Try.prog W = .ok (.map (some W.heap.size)) (W.alloc (.map #[] 0)) := by intro W; rfl
  have hb0 : Below w.heap.size w (w.alloc (.map #[] 0)) := (Below.refl _ _).alloc (Nat.le_refl _) _
  have hs0 := NSet.made w
  go_enter Try.func7, Try.ntmps7
  go_wp2
  obtain ⟨W0, hW0⟩ : ∃ W0, W0 = w.alloc (.map #[] 0) := ⟨_, rfl⟩
  rw [← hW0] at hb0 hs0 ⊢
  clear hW0
  go_loopw [18] (fun i wr => ∃ (k : Nat) (f : Nat → Bool), k ≤ n' ∧ i = .int .i64 k ∧ Hid (∀ j, j < k → OkN (fs.getD j 0)) ∧ NSet wr w.heap.size k f ∧ Hid (∀ x, Mk64 f x ↔ x ∈ fs.take k) ∧ Below w.heap.size w wr) (fun i _ => n' - (intOf i).toNat)
  case atStart => exact ⟨0, _, by omega, rfl, Lib.hid (fun j hj => by omega), hs0, Lib.hid (fun x => by simp [Mk64]), hb0⟩
  case round =>
    clear hs0 hb0
    obtain ⟨k, f, hk, rfl, hok, hs, hmm, hbw⟩ := hrel
    by_cases hlt : k < n'
    · obtain ⟨b, o, rfl, hbb, hc⟩ := (h'.below' hbw hB').at_ hlt
      have hkn : (k : Int) < n' := by omega
      have HNX := Lib.hid (fun y => sl_next (p := fun j => OkN (fs.getD j 0)) hok.out y)
      have HBAD : Hid (¬ OkN (fs.getD k 0) → ¬ ((∀ n ∈ fs, OkN n) ∧ ∀ e ∈ es, OkE e)) := Lib.hid (fun hx hall => hx (hall.1 _ (getD_memI (by rw [HL'.out]; exact hlt))))
      have HTK : Hid (∀ x, x ∈ fs.take (k + 1) ↔ x ∈ fs.take k ∨ x = fs.getD k 0) := Lib.hid (fun x => by
        have hl : k < fs.length := by rw [HL'.out]; exact hlt
        have e : fs.getD k 0 = fs[k] := by simp [List.getD, List.getElem?_eq_getElem hl]
        rw [List.take_succ_eq_append_getElem hl, List.mem_append, List.mem_singleton, e])
      generalize fs.getD k 0 = m at *
      clear hok
      by_cases h1 : m < 0
      · have d1 : decide (m < 0) = true := by simpa using h1
        have HE := Lib.hid (HBAD.out (fun hx => by have := hx.1; omega))
        clear h1
        go_wp2
        go_ret2
        exact reach_bad HE.out rfl hbw
      have d1 : decide (m < 0) = false := by simpa using h1
      by_cases h2 : 63 < m
      · have d2 : decide (63 < m) = true := by simpa using h2
        have HE := Lib.hid (HBAD.out (fun hx => by have := hx.2; omega))
        clear h1 h2
        go_wp2
        go_ret2
        exact reach_bad HE.out rfl hbw
      have d2 : decide (63 < m) = false := by simpa using h2
      have HN2 := Lib.hid (HNX.out ⟨by omega, by omega⟩)
      obtain ⟨q, hq, rfl⟩ : ∃ q : Nat, q < 64 ∧ m = (q : Int) := ⟨m.toNat, by omega, by omega⟩
      obtain ⟨w3, hup, hs3, hg3⟩ := hs.update (by unfold maxLen; omega) hq
      have HS3 := Lib.hid hs3
      have HM3 : Hid (∀ x, Mk64 (setB f q) x ↔ x ∈ fs.take (k + 1)) := Lib.hid (fun x => by rw [Mk64.set hq, HTK.out, hmm.out])
      have HB3 := Lib.hid (hbw.grown hg3 hbw.size (fun j hj => by cases hj; exact Nat.le_refl _))
      clear h1 h2 HNX HBAD HTK hmm hs hs3 hg3 hbw
      go_wp2
      go_roundw
      case rel => exact ⟨k + 1, _, by omega, by go_num, HN2, HS3.out, HM3, HB3.out⟩
      case measure => simp [intOf]; omega
    obtain rfl : k = n' := by omega
    have HF : Hid (∀ n ∈ fs, OkN n) := Lib.hid (all_atI (by rw [HL'.out]; exact hok.out))
    have HMET : Hid (Met es fs f) := Lib.hid (by
      have e : fs.take k = fs := List.take_of_length_le (by rw [HL'.out]; omega)
      have hm := hmm.out
      rw [e] at hm
      exact ⟨fun n hn => (hm n).2 hn, fun n hn => Rch.clo.1 n ((hm n).1 hn)⟩)
    have HS := Lib.hid hs
    have HBW := Lib.hid hbw
    have hsz := hbw.size
    clear hok hlt hbw hs hmm
    by_cases hed : ∀ e ∈ es, OkE e
    case neg =>
      have he1 : edgesErr es = 1 := if_neg hed
      have HBD : Hid (¬ ((∀ n ∈ fs, OkN n) ∧ ∀ e ∈ es, OkE e)) := Lib.hid (fun hx => hed hx.2)
      have hE := (edgesFault_any A n c es wr B (RS.below' h HBW.out hB) (by omega) (by omega))
      rw [he1] at hE
      clear hed he1
      go_wp2_with (go_at_call 14; refine hE.mono ?_; rintro e w4 ⟨rfl, hb4⟩)
      go_ret2
      exact reach_bad HBD.out rfl (HBW.out.trans (hb4.mono hsz))
    have he0 : edgesErr es = 0 := if_pos hed
    have HG : Hid ((∀ n ∈ fs, OkN n) ∧ ∀ e ∈ es, OkE e) := Lib.hid ⟨HF.out, hed⟩
    have hE := (edgesFault_any A n c es wr B (RS.below' h HBW.out hB) (by omega) (by omega))
    rw [he0] at hE
    clear hed he0
    go_wp2_with (go_at_call 14; refine hE.mono ?_; rintro e w4 ⟨rfl, hb4⟩)
    have HS4 := Lib.hid (HS.out.grow hb4)
    have HB4 := Lib.hid (HBW.out.trans (hb4.mono hsz))
    clear hb4 HS HBW hsz hE
    have HN0 : Hid (k + unmet f ≤ k + 64) := Lib.hid (by have := unmet_le f; omega)
    go_loopw [10] (fun v wr => ∃ (m : Bool) (nn : Nat) (f : Nat → Bool), v = .bool m ∧ Hid (nn + unmet f ≤ k + 64) ∧ Hid (NSet wr w.heap.size nn f) ∧ Hid (Met es fs f) ∧ Hid (m = false → ClosedTo es f es.length) ∧ Hid (Below w.heap.size w wr)) (fun v wr => unmet (lookB w.heap.size wr) + boolV v)
    case atStart => exact ⟨true, k, f, rfl, HN0, HS4, HMET, Lib.hid (fun e => by cases e), HB4⟩
    case round =>
      clear HS4 HB4 HMET HN0
      obtain ⟨m, nn, f, rfl, HN, HS, HMET, HCL, HB4⟩ := hrel
      cases m
      · have HCA := Lib.hid (closed_all (HCL.out rfl))
        clear HCL
        obtain ⟨D, hown, hmap, hD⟩ := HS.out
        have hszD := hown.size_le
        have hnn := HN.out
        have HRS := Lib.hid (HMET.out.done HCA.out)
        have HD := Lib.hid hD
        clear hD hmap HN HMET HCA
        obtain ⟨W, hW⟩ : ∃ W, W = wr := ⟨_, rfl⟩
        subst hW
        go_wp2_with (first
          | (at_range; refine wpList_range_own _ rfl _ 41 rfl 3 4 (int_keyed Try.underlying3) Try.underlying41 _ w.heap.size nn D rfl hown ?_; intro w0 hrg0 hg0 hs0)
          | fail)
        have hbw0 : Below W.heap.size W w0 := (Below.refl _ _).grown hg0 (Nat.le_refl _) (fun j hj => by cases hj)
        have hb0 : Hid (Below w.heap.size w w0) := Lib.hid (HB4.out.trans (hbw0.mono HB4.out.size))
        have HK0 := Lib.hid (Kys.start (f := f) (left := Maps.has D) (fun x => (HD.out x).1))
        have hWl := HB4.out.size
        simp only [Act.put, List.setIfInBounds_toArray, List.set_cons_succ, List.set_cons_zero]
        go_loopw [13] (fun v wr => ∃ (left : Lit → Bool) (cnt : Nat) (ks : List Int), wr.ranges Try.prog 3 (plainElem Try.prog 4) w.heap.size W.heap.size nn D left cnt ∧ ks.length + cnt ≤ Maps.size D ∧ Hid (Kys f left ks) ∧ Row wr (W.heap.size + 1) 3 1 v ks.length (ks.map (Value.int .i64)) ∧ Hid (Below w.heap.size w wr) ∧ W.heap.size + 1 ≤ wr.heap.size)
          (fun _ wr => wr.rangeLeft w.heap.size W.heap.size)
        case atStart => exact ⟨_, _, [], hrg0, by simp, HK0, Row.nil _ _ _ _, hb0, by omega⟩
        case round =>
          obtain ⟨left, cnt, ks, hrg, hcs, hK, hrow, hbw, hws⟩ := hrel
          clear hg0 hrg0 hb0 hs0 HK0
          obtain ⟨A7, c7, rfl, hc7, -⟩ := hrow.shape
          go_wp2_with (first
            | (at_next; refine wpList_next_nodes _ rfl _ rfl w.heap.size W.heap.size nn D f HD.out _ _ rfl hrg ?_ ?_)
            | fail)
          · intro hc0 hl0
            have hS := hK.out.done hl0
            have hle : Hid (ks.length = (outL f 64).length) := Lib.hid (by rw [← hS, List.length_mergeSort])
            have HW := hbw.out.size
            clear hcs hK hrg hc0 hl0
            rcases Nat.eq_zero_or_pos ks.length with h0 | h0
            · have hks : ks = [] := List.eq_nil_of_length_eq_zero h0
              subst hks
              have ho : outL f 64 = [] := by rw [← hS]; simp
              dsimp only [List.length_nil] at hrow hc7 ⊢
              go_wp2_with (go_at_call 15; refine (sort_none A7 c7 wr).mono ?_; rintro e w5 ⟨rfl, rfl⟩)
              go_ret2
              exact reach_good HG.out HRS.out rfl (by rw [ho]; exact hrow.base_le (by omega)) hbw.out
            · have hol := outL_len f 64
              have HSR := sort_row A7 ks.length c7 (W.heap.size + 1) ks wr hrow (by have := hle.out; omega) h0
              have hlt := hrow.lt
              rw [hS] at HSR
              generalize ks.length = kl at *
              go_wp2_with (go_at_call 15; refine HSR.mono ?_; rintro e w5 ⟨rfl, hr5, hf5⟩)
              go_ret2
              exact reach_good HG.out HRS.out rfl (by rw [← hle.out]; exact hr5.base_le (by omega)) (hbw.out.trans ((hf5.below (B := w.heap.size) HW (fun k hk => by have := hlt k hk; omega))))
          · intro x w1 cnt1 hlx hmk hrg1 hlt hg1 hs1 hen
            have HW := hbw.out.size
            have HR1 := hrow.grown hg1 (fun k hk e => by have := hrow.lt k hk; injection e with e; omega)
            have HK1 := Lib.hid (hK.out.next hlx hmk)
            have HB1 := hbw.out.grown hg1 HW (fun k hk => by injection hk with hk; omega)
            have hs1' : wr.heap.size ≤ w1.heap.size := by omega
            clear hg1 hK hmk hlx hs1
            have hnl : ks.length ≤ 26388279066624 := by omega
            go_wp2_with (at_builtin; refine wpList_append_rowF _ rfl (.tmp 64) (.tmp 66) 23 rfl (W.heap.size + 1) 3 i0 (.int .i64 0) 1 8 Try.underlying23 hi hz0 hz1 hz2 rfl (by decide) (.slice A7 ks.length c7) ks.length (ks.map (Value.int .i64)) rfl (HR1.alloc _) (w1.heap.size + 1) (some ⟨w1.heap.size, 0, none⟩) 1 1 [.int .i64 x] rfl (reads_one w1 _ 3) (by simp [Value.oneCell']) (by unfold maxLen; omega) (by omega) (fit_one hnl) (by simp; omega) ?_)
            intro A9 c9 w9 hr9 hg9 ho9
            have hl9 : (ks ++ [x]).length = ks.length + 1 := by simp
            have hr9' : Row w9 (W.heap.size + 1) 3 1 (.slice A9 (ks ++ [x]).length c9) (ks ++ [x]).length ((ks ++ [x]).map (Value.int .i64)) := by
              rw [hl9]; simpa using hr9
            have hrg9 := (hrg1.alloc (.cells #[.int .i64 x] 3)).kept hg9 (fun e => by have := HR1.lt _ e.symm; omega) (fun e => by have := HR1.lt _ e.symm; omega)
            have hb9 := (HB1.alloc HB1.size (.cells #[.int .i64 x] 3)).grown hg9 (by simp; omega) (fun k hk => by have := HR1.lt k hk; omega)
            have hs9 := hg9.size
            rw [World.size_alloc] at hs9
            rw [hl9] at hr9'
            go_wp2
            go_roundw
            case rel => exact ⟨_, cnt1, ks ++ [x], hrg9, by rw [hl9]; omega, HK1, by rw [hl9]; exact hr9', Lib.hid hb9, by omega⟩
            case measure => rw [hrg9.left_eq, hrg.left_eq]; exact hlt
      · clear HCL
        have HMS : Hid (unmet (lookB w.heap.size wr) = unmet f) := Lib.hid HS.out.unmet
        obtain ⟨W, hW⟩ : ∃ W, W = wr := ⟨_, rfl⟩
        subst hW
        go_wp2
        go_loopw [10, 39] (fun v i wr => ∃ (j : Nat) (m : Bool) (nn : Nat) (f' : Nat → Bool), j ≤ n ∧ i = .int .i64 j ∧ v = .bool m ∧ Hid (nn + unmet f' ≤ k + 64) ∧ Hid (NSet wr w.heap.size nn f') ∧ Hid (Met es fs f') ∧ Hid (m = false → ClosedTo es f' j) ∧ Hid (unmet f' + (if m = true then 1 else 0) ≤ unmet f) ∧ Hid (Below w.heap.size w wr)) (fun _ i _ => n - (intOf i).toNat)
        case atStart => exact ⟨0, false, nn, f, by omega, rfl, rfl, HN, HS, HMET, Lib.hid (fun _ j hj => by omega), Lib.hid (by simp), HB4⟩
        case round =>
          clear HN HS HMET HB4
          obtain ⟨j, m, nn, f', hj, rfl, rfl, HN, HS, HMET, HCL, HUL, HB4⟩ := hrel
          by_cases hlt : j < n
          · obtain ⟨b2, q2, rfl, hbb2, k0, k1⟩ := RE.at_ (RS.below' h HB4.out hB) hlt
            have hjn : (j : Int) < n := by omega
            have hbr : b2 < wr.heap.size := by have := HB4.out.size; omega
            have hem := getD_memE (es := es) (j := j) (by rw [HL.out]; exact hlt)
            have HEO := HG.out.2 _ hem
            have HCN := Lib.hid (fun y => sl_next (p := fun i => Mk64 f' (es.getD i (0, 0)).1 → Mk64 f' (es.getD i (0, 0)).2) (k := j) y)
            have HMA := Lib.hid (fun (o : Nat) (h1 : Mk64 f' (es.getD j (0, 0)).1) (h2 : (es.getD j (0, 0)).2 = (o : Int)) (ho : o < 64) => HMET.out.add hem h1 h2 ho)
            clear hem
            generalize es.getD j (0, 0) = e at *
            obtain ⟨a, z⟩ := e
            dsimp only at k0 k1 HCN HMA HEO
            obtain ⟨⟨ha1, ha2⟩, ⟨hz3, hz4⟩⟩ := HEO
            dsimp only at ha1 ha2 hz3 hz4
            obtain ⟨p, hp, rfl⟩ : ∃ p : Nat, p < 64 ∧ a = (p : Int) := ⟨a.toNat, by omega, by omega⟩
            obtain ⟨q, hq, rfl⟩ : ∃ q : Nat, q < 64 ∧ z = (q : Int) := ⟨z.toNat, by omega, by omega⟩
            clear ha1 ha2 hz3 hz4
            have hs2 := HS.out.alloc (.cells #[.int .i64 p, .int .i64 q] 37)
            have hl1 := hs2.look (x := (p : Int)) ⟨by omega, by omega⟩
            have hl2 := hs2.look (x := (q : Int)) ⟨by omega, by omega⟩
            rw [mkB_nat f' hp] at hl1
            rw [mkB_nat f' hq] at hl2
            have HS2 := Lib.hid hs2
            have HB5 : Hid (Below w.heap.size w (wr.alloc (.cells #[.int .i64 p, .int .i64 q] 37))) := Lib.hid (HB4.out.alloc HB4.out.size _)
            have HP : Hid (Mk64 f' (p : Int) ↔ f' p = true) := Lib.hid (by rw [← mkB_iff, mkB_nat f' hp])
            have HQ : Hid (Mk64 f' (q : Int) ↔ f' q = true) := Lib.hid (by rw [← mkB_iff, mkB_nat f' hq])
            cases hfp : f' p
            · rw [hfp] at hl1
              have HC2 : Hid (m = false → ClosedTo es f' (j + 1)) := Lib.hid (fun e => HCN.out (HCL.out e) (fun h1 => by have := HP.out.1 h1; rw [hfp] at this; cases this))
              clear HCN HCL HMA hs2 HP HQ
              go_wp2
              go_roundw
              case rel => exact ⟨j + 1, m, nn, f', by omega, by go_num, rfl, HN, HS2, HMET, HC2, HUL, HB5⟩
              case measure => simp [intOf]; omega
            · rw [hfp] at hl1
              cases hfq : f' q
              · rw [hfq] at hl2
                have hnl := HN.out
                obtain ⟨w6, hup, hs6, hg6⟩ := hs2.update (by unfold maxLen; omega) hq
                have HU6 : Hid (unmet (setB f' q) + 1 = unmet f') := Lib.hid (unmet_set hq hfq)
                have HM6 := Lib.hid (HMA.out q (HP.out.2 hfp) rfl hq)
                have HS6 := Lib.hid hs6
                have HB6 := Lib.hid (HB5.out.grown hg6 HB5.out.size (fun j hj => by cases hj; exact Nat.le_refl _))
                have HN6 : Hid (nn + 1 + unmet (setB f' q) ≤ k + 64) := Lib.hid (by have := HU6.out; omega)
                have HUL6 : Hid (unmet (setB f' q) + (if true = true then 1 else 0) ≤ unmet f) := Lib.hid (by
                  have := HU6.out; have := HUL.out; rw [if_pos rfl]; split at this <;> omega)
                clear HCN HCL HMA hs2 hs6 hg6 HP HQ hnl HUL HMET HN
                go_wp2
                go_roundw
                case rel => exact ⟨j + 1, true, nn + 1, setB f' q, by omega, by go_num, rfl, HN6, HS6, HM6, Lib.hid (fun e => by cases e), HUL6, HB6⟩
                case measure => simp [intOf]; omega
              · rw [hfq] at hl2
                have HC2 : Hid (m = false → ClosedTo es f' (j + 1)) := Lib.hid (fun e => HCN.out (HCL.out e) (fun _ => HQ.out.2 hfq))
                clear HCN HCL HMA hs2 HP HQ
                go_wp2
                go_roundw
                case rel => exact ⟨j + 1, m, nn, f', by omega, by go_num, rfl, HN, HS2, HMET, HC2, HUL, HB5⟩
                case measure => simp [intOf]; omega
          · obtain rfl : j = n := by omega
            have HCE : Hid (m = false → ClosedTo es f' es.length) := Lib.hid (by rw [HL.out]; exact HCL.out)
            go_wp2
            exact ⟨⟨m, nn, f', rfl, HN, HS, HMET, HCE, HB4⟩, by rw [HS.out.unmet, HMS.out]; have := HUL.out; cases m <;> simp [boolV] at this ⊢ <;> omega⟩
end Go.Proofs.Ytmfalafolpfhiaa
