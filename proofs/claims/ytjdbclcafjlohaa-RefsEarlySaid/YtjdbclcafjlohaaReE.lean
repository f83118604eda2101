/- Contract of refs.Early: the walk. -/
import Derived.Test.YtjdbclcafjlohaaReD
namespace Go.Proofs.Ytjdbclcafjlohaa
open Go.RowKit Go.Maps
set_option maxHeartbeats 400000
set_option linter.unusedVariables false
set_option linter.unusedSimpArgs false
theorem run_index68 (w : World) (cs : Array Value) (j : Nat) (u : Value) (hj : j < 64) (h : cs[j]? = some u) : (Instr.index 68 (.agg cs) (.int .i64 j)).run Try.prog w = .ok u w := by
  have h0 : (0 : Int) ≤ j ∧ (j : Int) < (64 : Nat) := by omega
  simp [Instr.index, run_underlying Try.underlying68, asIntOf, h0, go_sem, part, h]
  intro h64
  omega
theorem lt_cell' {w : World} {g o : Nat} {u : Value} (h : w.cell? ⟨g, o, none⟩ = some u) : g < w.heap.size := by
  rcases Nat.lt_or_ge g w.heap.size with h' | h'
  · exact h'
  · simp [World.cell?, Array.getElem?_eq_none h'] at h
theorem info68 (f : Nat → Value) : (Try.prog.info? 68).map (·.size) = some (rowOf f).size := by
  rw [rowOf_size]
  kernel_rfl
theorem info66 (f : Nat → Value) : (Try.prog.info? 66).map (·.size) = some (row17 f).size := by
  rw [show (row17 f).size = 17 by simp [row17]]
  kernel_rfl
theorem run_index66 (w : World) (cs : Array Value) (j : Nat) (u : Value) (hj : j < 17) (h : cs[j]? = some u) : (Instr.index 66 (.agg cs) (.int .i64 j)).run Try.prog w = .ok u w := by
  have h0 : (0 : Int) ≤ j ∧ (j : Int) < (17 : Nat) := by omega
  simp [Instr.index, run_underlying Try.underlying66, asIntOf, h0, go_sem, part, h]
  intro h64
  omega
set_option maxHeartbeats 8000000 in
set_option maxRecDepth 100000 in
theorem early_any (A : Option Addr) (n c : Nat) (rs : List Rc) (w : World) (B : Nat) (h : RR w B A n rs) (hB : B ≤ w.heap.size) (hn : n ≤ 9223372036854775807) :
    Calls Try.prog 24 #[.slice A n c] w (FirstPost (badE rs) (traceErr rs) n w) := by
  have HL := Lib.hid h.2
  by_cases ht : traceErr rs = 0
  · obtain ⟨hsm, hgd⟩ := traceErr_good ht
    have hsm' : n ≤ 400 := by rw [HL.out] at hsm; exact hsm
    have HT := Lib.hid ht
    have HG := Lib.hid hgd
    clear hsm hgd
    go_enter Try.func24, Try.ntmps24
    go_wp2_with (go_at_call 38; refine (checked_any A n c rs _ B h hB hn).mono ?_; rintro e w1 ⟨rfl, hb1⟩; rw [ht])
    clear ht
    have hrel0 := ErRel.start rs hb1
    go_loopw [21] (fun i wr => ∃ (k : Nat) (M : Nat → Option Nat), k ≤ n ∧ i = .int .i64 k ∧ Hid (∀ j, j < k → ¬ badE rs j) ∧ ErRel w w1.heap.size rs k M wr) (fun i _ => n - (intOf i).toNat)
    case atStart => exact ⟨0, fun _ => none, by omega, rfl, Lib.hid (fun j hj => by omega), hrel0⟩
    case round =>
      obtain ⟨k, M, hk, rfl, hok, hR⟩ := hrel
      clear hrel0
      by_cases hlt : k < n
      · obtain ⟨b, of, rfl, hb, c0, c1, c2, c3⟩ := (h.below' hR.low hB).at_ hlt
        have hlen : k < rs.length := by rw [HL.out]; exact hlt
        have hOk := Lib.hid (fun x : ¬ badE rs k => ok_next (p := fun j => ¬ badE rs j) hok.out x)
        have hBad := Lib.hid (FirstIs.at_ (n := n) HT.out hlt hok.out)
        have hIff := Lib.hid (badE_iff (rs := rs) (i := k))
        have hN9 := Lib.hid (show (rs.getD k .zero).k ≠ 9 → ¬ badE rs k from fun h hx => h hx.1)
        have HR0 := Lib.hid (rfl : rs.getD k .zero = rs.getD k .zero)
        have hPass := Lib.hid (fun a b c => hR.pass hlen a b c)
        have hEnt := Lib.hid (fun a t ht h17 => hR.enter hlen a (t := t) ht h17)
        have hLea := Lib.hid (fun a t ht h17 => hR.leave hlen a (t := t) ht h17)
        have hdr := Lib.hid (fun t => dp_rng rs t k (Nat.le_of_lt hlen))
        have he := HG.out k hlen
        generalize hr0 : rs.getD k .zero = r at *
        clear HR0
        have HR0 := Lib.hid hr0
        clear hr0
        have hgd := Rc.good he
        clear he
        obtain ⟨t, ht⟩ : ∃ t : Nat, r.t = t := ⟨r.t.toNat, by omega⟩
        obtain ⟨o, ho⟩ : ∃ o : Nat, r.o = o := ⟨r.o.toNat, by omega⟩
        have h17 : t < 17 := by omega
        have h17' : (t : Int) < 17 := by omega
        have h64 : o < 64 := by omega
        have h64' : (o : Int) < 64 := by omega
        have HTT := Lib.hid ht
        have d5 := hR.deep.cell t
        rw [row17_at _ t h17] at d5
        have f5 := hR.deep.free t
        have l5 := hR.deep.lt
        have d6 := hR.arr.cell o
        rw [rowOf_at _ o h64] at d6
        have f6 := hR.arr.free o
        have l6 := hR.arr.lt
        have hdr' := hdr.out t
        by_cases k3 : r.k = 3
        · have HE := Lib.hid (hEnt.out k3 t ht h17)
          have hfin := Lib.hid (hOk.out (hN9.out (by omega)))
          generalize dp (rs.take k) t = z at *
          go_wp2
          go_roundw
          case rel => exact ⟨k + 1, M, by omega, by go_num, hfin, HE.out.alloc _⟩
          case measure => simp [intOf]; omega
        by_cases k4 : r.k = 4
        · have hfin := Lib.hid (hOk.out (hN9.out (by omega)))
          by_cases hz : 1 < dp (rs.take k) t
          · have HE := Lib.hid (hLea.out k4 t ht h17 hz)
            generalize dp (rs.take k) t = z at *
            go_wp2
            go_region
            go_wp2
            go_roundw
            case rel => exact ⟨k + 1, M, by omega, by go_num, hfin, (HE.out.alloc _).drewN 1⟩
            case measure => simp [intOf]; omega
          · have HMid := Lib.hid (fun X n => MidRel.start hR hlen (t := t) (by rw [HR0.out]; exact k4) (by rw [HR0.out]; exact ht) h17 (by omega) X n)
            have hz' : dp (rs.take k) t = 0 ∨ dp (rs.take k) t = 1 := by omega
            generalize dp (rs.take k) t = z at *
            obtain ⟨W, hW⟩ : ∃ W, W = wr := ⟨_, rfl⟩
            subst hW
            have hmr := (HMid.out (.cells #[.int .i64 4, .int .i64 r.c, .int .i64 r.t, .int .i64 r.o] 24) 1).1
            rw [ht, ho] at hmr
            have hdp0 := Lib.hid (HMid.out (.cells #[.int .i64 4, .int .i64 r.c, .int .i64 r.t, .int .i64 r.o] 24) 1).2
            have harr := hmr.arr
            have hltb : ∀ o b, o < 64 → M o = some b → b < W.heap.size := fun o b ho hb => by
              obtain ⟨_, n, S, _, hs, _⟩ := hR.sets.some_ o b ho hb
              exact hs.lt
            have HLTB := Lib.hid hltb
            clear hltb
            have htwf : (Lit.int .i64 (t : Int)).wf = true := by simp [Lit.wf, IntKind.min, IntKind.max, IntKind.signed, IntKind.bits]; omega
            have hbx2 : (((W.setCell ⟨w1.heap.size, t, none⟩ (.int .i64 0)).alloc (.cells #[.int .i64 4, .int .i64 r.c, .int .i64 t, .int .i64 o] 24)).drewN 1).cell? ⟨W.heap.size, 2, none⟩ = some (.int .i64 t) := by
              have h1 := ((Blk.new (W.setCell ⟨w1.heap.size, t, none⟩ (.int .i64 0)) #[.int .i64 4, .int .i64 r.c, .int .i64 t, .int .i64 o] 24).drewN 1).cell 2
              simpa using h1
            rcases hz' with rfl | rfl
            all_goals
              go_wp2
              go_region
              go_wp2_with (refine wpList_load_row rfl 68 (.tmp 6) rfl (w1.heap.size + 1) rfl 68 _ (0, 0) _ harr Try.underlying68 rfl (info68 _) ?_)
              clear harr d5 d6 f5 f6 l5 l6 c0 c1 c2 c3
              go_loopw [53] (fun i5 wr => ∃ j : Nat, j ≤ 64 ∧ i5 = .int .i64 j ∧ MidRel w w1.heap.size rs k M j wr ∧ wr.cell? ⟨W.heap.size, 2, none⟩ = some (.int .i64 t)) (fun i5 _ => 64 - (intOf i5).toNat)
              case atStart => exact ⟨0, by omega, rfl, hmr, hbx2⟩
              case round =>
                obtain ⟨j, hj, rfl, hm, hx9⟩ := hrel
                clear hmr hbx2
                have hxl := lt_cell' hx9
                by_cases hj64 : j < 64
                · have hix := run_index68 wr (rowOf fun o => .map (M o)) j _ hj64 (rowOf_at _ j hj64)
                  have hj64' : (j : Int) < 64 := by omega
                  cases hM : M j with
                  | none =>
                    rw [hM] at hix
                    have hdl := fun W ty => Go.Maps.drop_nil (P := Try.prog) (w := W) (int_keyed Try.underlying3) Try.underlying67 (keyOf_int_mk (a := (t : Int)) Try.underlying3 htwf) ty
                    have HM2 : Hid (MidRel w w1.heap.size rs k M (j + 1) wr) := Lib.hid ⟨hm.deep, hm.arr, hm.mid.skip hM, hm.low, hm.hg⟩
                    have HX9 := Lib.hid hx9
                    clear hM hm
                    go_wp2
                    go_roundw
                    case rel => exact ⟨j + 1, by omega, by go_num, HM2.out, HX9.out⟩
                    case measure => simp [intOf]; omega
                  | some bb =>
                    rw [hM] at hix
                    obtain ⟨hbb, n1, S, hn1, hSet, hSx⟩ := hm.mid.some_ j bb hj64 hM
                    obtain ⟨w', hrun, hs', hg'⟩ := hSet.delete Try.underlying3 Try.underlying67 (x := (t : Int)) htwf
                    have HM2 := Lib.hid (hm.next hbb (hm.mid.strike hj64 hM hn1 hlen (by rw [HR0.out]; exact k4) (by rw [HR0.out, ht, hdp0.out]; omega) (fun y => by have := hSx y; rwa [if_neg (Nat.lt_irrefl _)] at this) (by rw [HR0.out, ht]; exact hs') hg') hg')
                    have HX9 := Lib.hid (((Fr.of_grown hg').cell (p := ⟨W.heap.size, 2, none⟩) hxl (fun e => by have h1 := HLTB.out j bb hj64 hM; have h2 : bb = W.heap.size := (Option.some.inj e); omega)).trans hx9)
                    clear hM hm hSet hSx hs' hg'
                    go_wp2
                    go_roundw
                    case rel => exact ⟨j + 1, by omega, by go_num, HM2.out, HX9.out⟩
                    case measure => simp [intOf]; omega
                · obtain rfl : j = 64 := by omega
                  have HE := Lib.hid (hm.done hlen (by rw [HR0.out]; exact k4))
                  clear hm
                  go_wp2
                  go_roundw
                  case rel => exact ⟨k + 1, M, by omega, by go_num, hfin, HE.out⟩
                  case measure => simp [intOf]; omega
        by_cases k8 : r.k = 8
        · have hfin := Lib.hid (hOk.out (hN9.out (by omega)))
          obtain ⟨W, hW⟩ : ∃ W, W = wr := ⟨_, rfl⟩
          subst hW
          have hR1 := (hR.alloc (.cells #[.int .i64 8, .int .i64 r.c, .int .i64 t, .int .i64 o] 24)).alloc (.map #[] 0)
          have hS1 : IntSet Try.prog ((W.alloc (.cells #[.int .i64 8, .int .i64 r.c, .int .i64 t, .int .i64 o] 24)).alloc (.map #[] 0)) 3 4 (W.heap.size + 1) 0 (whoS rs k 0) := by
            have := IntSet.made Try.prog (W.alloc (.cells #[.int .i64 8, .int .i64 r.c, .int .i64 t, .int .i64 o] 24)) 3 4
            rw [whoS_zero (rs := rs) (k := k)] at this
            simpa using this
          have hbx3 : ((W.alloc (.cells #[.int .i64 8, .int .i64 r.c, .int .i64 t, .int .i64 o] 24)).alloc (.map #[] 0)).cell? ⟨W.heap.size, 3, none⟩ = some (.int .i64 o) := by
            have h1 := ((Blk.new W #[.int .i64 8, .int .i64 r.c, .int .i64 t, .int .i64 o] 24).alloc (.map #[] 0)).cell 3
            simp
          have HLTB : Hid (∀ o b, o < 64 → M o = some b → b ≠ W.heap.size + 1) := Lib.hid fun o b ho hb => by
            obtain ⟨_, n, S, _, hs, _⟩ := hR.sets.some_ o b ho hb
            have := hs.lt
            omega
          have hdeep := hR1.deep
          have l6x : w1.heap.size + 1 < W.heap.size := l6
          have hmk : ∀ W, (Instr.makeMap 67 none).run Try.prog W = .ok (.map (some W.heap.size)) (W.alloc (.map #[] 0)) := fun W => by first | rfl | simp [Instr.makeMap, run_underlying Try.underlying67, go_sem]
          clear d5 d6 f5 f6 l5 hdr'
          go_wp2_with (refine wpList_load_row rfl 66 (.tmp 5) rfl w1.heap.size rfl 66 _ (0, 0) _ hdeep Try.underlying66 rfl (info66 _) ?_)
          clear hdeep c0 c1 c2 c3 l6
          go_loopw [64] (fun i5 wr => ∃ j m : Nat, j ≤ 17 ∧ m ≤ j ∧ i5 = .int .i64 j ∧ IntSet Try.prog wr 3 4 (W.heap.size + 1) m (whoS rs k j) ∧ ErRel w w1.heap.size rs k M wr ∧ wr.cell? ⟨W.heap.size, 3, none⟩ = some (.int .i64 o)) (fun i5 _ => 17 - (intOf i5).toNat)
          case atStart => exact ⟨0, 0, by omega, by omega, rfl, hS1, hR1, hbx3⟩
          case round =>
            obtain ⟨j, m, hj, hm, rfl, hS, hE, hx9⟩ := hrel
            clear hS1 hR1 hbx3
            have hxl := lt_cell' hx9
            by_cases hj17 : j < 17
            · have hix := run_index66 wr (row17 fun t => .int .i64 (dp (rs.take k) t)) j _ hj17 (row17_at _ j hj17)
              have hj17' : (j : Int) < 17 := by omega
              by_cases hz : 0 < dp (rs.take k) j
              · have hjwf : (Lit.int .i64 (j : Int)).wf = true := by simp [Lit.wf, IntKind.min, IntKind.max, IntKind.signed, IntKind.bits]; omega
                obtain ⟨w', hrun, hs', hg'⟩ := hS.update Try.underlying3 Try.underlying4 Try.underlying67 (by unfold maxLen; omega) (x := (j : Int)) hjwf
                rw [whoS_yes hz] at hs'
                have HS := Lib.hid hs'
                have HE := Lib.hid (hE.apart hg' (by have := l6x; omega) HLTB.out)
                have HX9 := Lib.hid (((Fr.of_grown hg').cell (p := ⟨W.heap.size, 3, none⟩) hxl (fun e => by have h2 : W.heap.size + 1 = W.heap.size := (Option.some.inj e); omega)).trans hx9)
                clear hs' hg' hS hE
                generalize dp (rs.take k) j = z at *
                go_wp2
                go_roundw
                case rel => exact ⟨j + 1, m + 1, by omega, by omega, by go_num, HS.out, HE.out, HX9.out⟩
                case measure => simp [intOf]; omega
              · rw [whoS_no hz] at hS
                have HS := Lib.hid hS
                have HE := Lib.hid hE
                have HX9 := Lib.hid hx9
                clear hS hE
                generalize dp (rs.take k) j = z at *
                go_wp2
                go_roundw
                case rel => exact ⟨j + 1, m, by omega, by omega, by go_num, HS.out, HE.out, HX9.out⟩
                case measure => simp [intOf]; omega
            · obtain rfl : j = 17 := by omega
              have a6 := hE.arr.cell o
              rw [rowOf_at _ o h64] at a6
              have a7 := hE.arr.free o
              have a8 := hE.arr.lt
              have HE := Lib.hid (hE.later hlen HG.out (by rw [HR0.out]; exact k8) (by rw [HR0.out]; exact ho) h64 (by omega) (by have := l6x; omega) hS HLTB.out)
              clear hS hE
              go_wp2
              go_roundw
              case rel => exact ⟨k + 1, _, by omega, by go_num, hfin, HE.out⟩
              case measure => simp [intOf]; omega
        have HP := Lib.hid (hPass.out k3 k4 k8)
        by_cases k9 : r.k = 9
        · have K9 := Lib.hid k9
          cases hM : M o with
          | none =>
            rw [hM] at d6
            have hno := hR.sets.none_ o h64 hM
            have hfin := Lib.hid (hOk.out (fun hx => by
              obtain ⟨_, x, hx⟩ := hIff.out.1 hx
              rw [ho] at hx
              exact hno x hx))
            have hln := fun W ty => Go.Maps.len_nil (P := Try.prog) (w := W) Try.underlying67 ty
            clear hno hM
            go_wp2
            go_roundw
            case rel => exact ⟨k + 1, M, by omega, by go_num, hfin, HP.out.alloc _⟩
            case measure => simp [intOf]; omega
          | some bb =>
            rw [hM] at d6
            obtain ⟨hbb, n1, S, hn1, hSet, hSx⟩ := hR.sets.some_ o bb h64 hM
            obtain ⟨m, hln, hm⟩ := (hSet.alloc (.cells #[.int .i64 9, .int .i64 r.c, .int .i64 r.t, .int .i64 r.o] 24)).len Try.underlying67
            have HM := Lib.hid hm
            rw [ht, ho] at hln
            by_cases hm0 : 0 < m
            · have hm0' : (0 : Int) < m := by omega
              have hfin := Lib.hid (hBad.out (hIff.out.2 ⟨K9.out, by
                obtain ⟨x, hx⟩ := HM.out.1 hm0
                exact ⟨x, by rw [ho]; exact (hSx x).1 hx⟩⟩))
              have hlo := (HP.out.alloc (.cells #[.int .i64 9, .int .i64 r.c, .int .i64 r.t, .int .i64 r.o] 24)).low
              rw [ht, ho] at hlo
              have HLO := Lib.hid hlo
              clear hm hSx hM hSet hlo
              go_wp2
              go_ret2
              exact ⟨_, _, rfl, hfin.out, HLO.out⟩
            · obtain rfl : m = 0 := by omega
              have hfin := Lib.hid (hOk.out (fun hx => by
                obtain ⟨_, x, hx⟩ := hIff.out.1 hx
                rw [ho] at hx
                exact hm0 (HM.out.2 ⟨x, (hSx x).2 hx⟩)))
              clear hm hSx hM hSet
              go_wp2
              go_roundw
              case rel => exact ⟨k + 1, M, by omega, by go_num, hfin, HP.out.alloc _⟩
              case measure => simp [intOf]; omega
        · have hfin := Lib.hid (hOk.out (hN9.out k9))
          go_wp2
          go_roundw
          case rel => exact ⟨k + 1, M, by omega, by go_num, hfin, HP.out.alloc _⟩
          case measure => simp [intOf]; omega
      · obtain rfl : k = n := by omega
        have hlow := hR.low
        clear hR
        go_wp2
        go_ret2
        exact ⟨_, _, rfl, .inr (.inr ⟨HT.out, hok.out, rfl, rfl⟩), hlow⟩
  · have ht' : (traceErr rs != 0) = true := by simpa using ht
    go_enter Try.func24, Try.ntmps24
    go_wp2_with (go_at_call 38; refine (checked_any A n c rs _ B h hB hn).mono ?_; rintro e w1 ⟨rfl, hb1⟩)
    go_ret2
    exact ⟨_, _, rfl, .inl ⟨ht, rfl, rfl⟩, hb1⟩
end Go.Proofs.Ytjdbclcafjlohaa
