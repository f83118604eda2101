/- Contract of refs.Reach. -/
import Derived.Test.YtmfalafolpfhiaaRrD
namespace Go.Proofs.Ytmfalafolpfhiaa
open Go.RowKit Go.Maps
set_option maxHeartbeats 400000
set_option linter.unusedVariables false
set_option linter.unusedSimpArgs false
/-- How long a slice is. -/
def lenV : Value → Nat
  | .slice _ n _ => n
  | _ => 0
/-- On the way: what is marked, what is still to be looked at. -/
structure WR (w : World) (es : List (Int × Int)) (fs : List Int) (f : Nat → Bool) (xs : List Int) (v : Value) (wr : World) : Prop where
  arr : Arr64 wr w.heap.size f
  row : Row wr w.heap.size 3 1 v xs.length (xs.map (Value.int .i64))
  way : Way es fs f xs
  len : xs.length + cntU es f ≤ fs.length + es.length
  bel : Below w.heap.size w wr
/-- Within a taken node's edges. -/
structure IR (w : World) (f : Nat → Bool) (xs : List Int) (v : Value) (wr : World) : Prop where
  arr : Arr64 wr w.heap.size f
  row : Row wr w.heap.size 3 1 v xs.length (xs.map (Value.int .i64))
  bel : Below w.heap.size w wr
theorem IR.alloc {w wr : World} {f : Nat → Bool} {xs : List Int} {v : Value} (h : IR w f xs v wr) (o : Obj) : IR w f xs v (wr.alloc o) := ⟨row_alloc h.arr o, h.row.alloc o, h.bel.alloc h.bel.size o⟩
theorem IR.grown {w wr w' : World} {f : Nat → Bool} {xs xs' : List Int} {v v' : Value} (h : IR w f xs v wr) (hg : wr.grownBy w' v.ownBlock) (hr : Row w' w.heap.size 3 1 v' xs'.length (xs'.map (Value.int .i64))) : IR w f xs' v' w' :=
  ⟨h.arr.fr (Fr.of_grown hg) (fun e => h.arr.ne h.row e), hr, h.bel.grown hg h.bel.size (fun k hk => (h.row.lt k hk).1)⟩
theorem ints_append (xs ys : List Int) : (xs.map (Value.int .i64)) ++ ys.map (Value.int .i64) = (xs ++ ys).map (Value.int .i64) := by simp
theorem last_split {xs : List Int} (h : xs ≠ []) : ∃ ys m, xs = ys ++ [m] := ⟨xs.dropLast, xs.getLast h, (List.dropLast_concat_getLast h).symm⟩
theorem reads_two (w : World) (X : Obj) (u : Value) (t : TypeId) : Reads ((w.alloc X).alloc (.cells #[u] t)) (w.heap.size + 2) 1 (some ⟨w.heap.size + 1, 0, none⟩) 1 [u] := by
  have := reads_one (w.alloc X) u t
  simpa using this
theorem behind_mono (es : List (Int × Int)) (n : Int) (j : Nat) : (behind es n j).length ≤ (behind es n es.length).length := by
  unfold behind
  rw [List.length_map, List.length_map, List.take_length]
  exact ((List.take_sublist j es).filter _).length_le
set_option maxHeartbeats 2000000 in
set_option maxRecDepth 100000 in
theorem reach_any (A A' : Option Addr) (n c n' c' : Nat) (es : List (Int × Int)) (fs : List Int) (w : World) (B B' : Nat) (h : RE w B A n es) (h' : RD w B' A' n' fs) (hB : B ≤ w.heap.size) (hB' : B' ≤ w.heap.size)
    (hn : n ≤ 8796093022208) (hn' : n' ≤ 17592186044416) :
    Calls Try.prog 6 #[.slice A n c, .slice A' n' c'] w (ReachPost w es fs) := by
  have HL := Lib.hid h.2
  have HL' := Lib.hid h'.len
  obtain ⟨i0, hi, hz0, hz1, hz2⟩ := info_parts Try.infoI
  have hbA : Below w.heap.size w (w.alloc (.cells (rowOf fun _ => .bool false) 39)) := (Below.refl _ _).alloc (Nat.le_refl _) _
  have HS := Lib.hid (Arr64.start w)
  have hsA : (w.alloc (.cells (rowOf fun _ => .bool false) 39)).heap.size = w.heap.size + 1 := by simp
  obtain ⟨WA, hWA⟩ : ∃ WA, WA = w.alloc (.cells (rowOf fun _ => .bool false) 39) := ⟨_, rfl⟩
  rw [← hWA] at hbA HS hsA
  have hr0 : RD WA B' A' n' fs := h'.below' hbA hB'
  go_enter Try.func6, Try.ntmps6
  go_wp2_with fail
  change Calls Try.prog 13 _ (w.alloc (.cells (rowOf fun _ => .bool false) 39)) _
  rw [← hWA]
  refine (clone_any A' n' c' fs WA B' hr0 (by omega) (by omega)).mono ?_
  rintro e w1 ⟨v1, rfl, hr1, hb1⟩
  have ha1 : Arr64 w1 w.heap.size (fun _ => false) := HS.out.grow hb1
  have hbw1 : Below w.heap.size w w1 := hbA.trans (hb1.mono (by omega))
  have hr1 := hr1.base_le (show w.heap.size ≤ WA.heap.size by omega)
  clear hsA HS hWA hr0 hbA hb1
  go_wp2
  go_loopw [22] (fun i wr => ∃ k : Nat, k ≤ n' ∧ i = .int .i64 k ∧ Hid (∀ j, j < k → OkN (fs.getD j 0)) ∧ Below w1.heap.size w1 wr) (fun i _ => n' - (intOf i).toNat)
  case atStart => exact ⟨0, by omega, rfl, Lib.hid (fun j hj => by omega), Below.refl _ _⟩
  case round =>
    obtain ⟨k, hk, rfl, hok, hb2⟩ := hrel
    have hbw2 : Below w.heap.size w wr := hbw1.trans (hb2.mono hbw1.size)
    by_cases hlt : k < n'
    · obtain ⟨b, o, rfl, hbb, hc⟩ := (h'.below' hbw2 hB').at_ hlt
      have hkn : (k : Int) < n' := by omega
      have HNX := Lib.hid (fun y => sl_next (p := fun j => OkN (fs.getD j 0)) hok.out y)
      have HBAD : Hid (¬ OkN (fs.getD k 0) → ¬ ((∀ n ∈ fs, OkN n) ∧ ∀ e ∈ es, OkE e)) := Lib.hid (fun hx hall => hx (hall.1 _ (getD_memI (by rw [HL'.out]; exact hlt))))
      generalize fs.getD k 0 = m at *
      clear hok
      by_cases h1 : m < 0
      · have d1 : decide (m < 0) = true := by simpa using h1
        have HE := Lib.hid (HBAD.out (fun hx => by have := hx.1; omega))
        clear h1
        go_wp2
        go_ret2
        exact reach_bad HE.out rfl hbw2
      have d1 : decide (m < 0) = false := by simpa using h1
      by_cases h2 : 63 < m
      · have d2 : decide (63 < m) = true := by simpa using h2
        have HE := Lib.hid (HBAD.out (fun hx => by have := hx.2; omega))
        clear h1 h2
        go_wp2
        go_ret2
        exact reach_bad HE.out rfl hbw2
      have d2 : decide (63 < m) = false := by simpa using h2
      have HN2 := Lib.hid (HNX.out ⟨by omega, by omega⟩)
      clear h1 h2 HNX HBAD
      go_wp2
      go_roundw
      case rel => exact ⟨k + 1, by omega, by go_num, HN2, hb2⟩
      case measure => simp [intOf]; omega
    obtain rfl : k = n' := by omega
    have HF : Hid (∀ n ∈ fs, OkN n) := Lib.hid (all_atI (by rw [HL'.out]; exact hok.out))
    have ha2 := Lib.hid (ha1.grow hb2)
    have hr2 := Lib.hid (hr1.grow hb2)
    have HBW := Lib.hid hbw2
    clear hok hlt hb2 hbw2 ha1 hr1 hbw1
    go_wp2
    rename World => w2
    go_loopw [35] (fun i wr => ∃ k : Nat, k ≤ n ∧ i = .int .i64 k ∧ Hid (∀ j, j < k → OkE (es.getD j (0, 0))) ∧ Below w2.heap.size w2 wr) (fun i _ => n - (intOf i).toNat)
    case atStart => exact ⟨0, by omega, rfl, Lib.hid (fun j hj => by omega), Below.refl _ _⟩
    case round =>
      obtain ⟨k, hk, rfl, hok, hb3⟩ := hrel
      have hbw3 : Below w.heap.size w wr := HBW.out.trans (hb3.mono HBW.out.size)
      by_cases hlt : k < n
      · obtain ⟨b, o, rfl, hbb, k0, k1⟩ := RE.at_ (RS.below' h hbw3 hB) hlt
        have hkn : (k : Int) < n := by omega
        have hbr : b < wr.heap.size := by have := hbw3.size; omega
        have HNX := Lib.hid (fun y => sl_next (p := fun j => OkE (es.getD j (0, 0))) hok.out y)
        have HBAD : Hid (¬ OkE (es.getD k (0, 0)) → ¬ ((∀ n ∈ fs, OkN n) ∧ ∀ e ∈ es, OkE e)) := Lib.hid (fun hx hall => hx (hall.2 _ (getD_memE (by rw [HL.out]; exact hlt))))
        generalize es.getD k (0, 0) = e at *
        obtain ⟨a, z⟩ := e
        dsimp only at k0 k1
        have HB3 := Lib.hid (hb3.trans (((Below.refl _ wr).alloc (Nat.le_refl _) (.cells #[.int .i64 a, .int .i64 z] 37)).mono hb3.size))
        have HW3 := Lib.hid (hbw3.trans (((Below.refl _ wr).alloc (Nat.le_refl _) (.cells #[.int .i64 a, .int .i64 z] 37)).mono hbw3.size))
        clear hb3 hbw3 hok
        by_cases h1 : a < 0
        · have d1 : decide (a < 0) = true := by simpa using h1
          have HE := Lib.hid (HBAD.out (fun hx => by have := hx.1.1; dsimp only at this; omega))
          clear h1
          go_wp2
          go_ret2
          exact reach_bad HE.out rfl HW3.out
        have d1 : decide (a < 0) = false := by simpa using h1
        by_cases h2 : 63 < a
        · have d2 : decide (63 < a) = true := by simpa using h2
          have HE := Lib.hid (HBAD.out (fun hx => by have := hx.1.2; dsimp only at this; omega))
          clear h1 h2
          go_wp2
          go_ret2
          exact reach_bad HE.out rfl HW3.out
        have d2 : decide (63 < a) = false := by simpa using h2
        by_cases h3 : z < 0
        · have d3 : decide (z < 0) = true := by simpa using h3
          have HE := Lib.hid (HBAD.out (fun hx => by have := hx.2.1; dsimp only at this; omega))
          clear h1 h2 h3
          go_wp2
          go_ret2
          exact reach_bad HE.out rfl HW3.out
        have d3 : decide (z < 0) = false := by simpa using h3
        by_cases h4 : 63 < z
        · have d4 : decide (63 < z) = true := by simpa using h4
          have HE := Lib.hid (HBAD.out (fun hx => by have := hx.2.2; dsimp only at this; omega))
          clear h1 h2 h3 h4
          go_wp2
          go_ret2
          exact reach_bad HE.out rfl HW3.out
        have d4 : decide (63 < z) = false := by simpa using h4
        have HN2 := Lib.hid (HNX.out ⟨⟨by show 0 ≤ a; omega, by show a ≤ 63; omega⟩, ⟨by show 0 ≤ z; omega, by show z ≤ 63; omega⟩⟩)
        clear h1 h2 h3 h4 HNX HBAD
        go_wp2
        go_roundw
        case rel => exact ⟨k + 1, by omega, by go_num, HN2, HB3.out⟩
        case measure => simp [intOf]; omega
      obtain rfl : k = n := by omega
      have HG : Hid ((∀ n ∈ fs, OkN n) ∧ ∀ e ∈ es, OkE e) := Lib.hid ⟨HF.out, all_at (p := OkE) (by rw [HL.out]; exact hok.out)⟩
      have HWR : Hid (WR w es fs (fun _ => false) fs v1 wr) := Lib.hid ⟨ha2.out.grow hb3, by have := hr2.out.grow hb3; rw [HL'.out]; exact this, Way.start, by have := cntU_le es (fun _ => false); omega, hbw3⟩
      clear hok hlt hb3 hbw3 ha2 hr2 HBW HF
      go_wp2
      go_loopw [7] (fun v wr => ∃ f xs, WR w es fs f xs v wr) (fun v wr => unmet (marks w.heap.size wr) * (es.length + 1) + lenV v)
      case atStart => exact ⟨_, _, HWR.out⟩
      case round =>
        clear HWR
        obtain ⟨f, xs, hwr⟩ := hrel
        have hlen := hwr.len
        rcases Nat.eq_zero_or_pos xs.length with h0 | hpos
        · obtain rfl : xs = [] := List.eq_nil_of_length_eq_zero h0
          have HARR := Lib.hid hwr.arr
          have HDONE := Lib.hid (hwr.way.done)
          have HBW := Lib.hid hwr.bel
          obtain ⟨A7, c7, rfl, hc7, -⟩ := hwr.row.shape
          clear hwr h0 hlen
          dsimp only [List.length_nil] at hc7 ⊢
          go_wp2_with (refine wpList_load_row rfl 39 (.tmp 6) rfl w.heap.size rfl 39 _ (0, 0) _ HARR.out Try.underlying39 rfl (info39 _) ?_)
          rename World => w0
          go_loopw [15, 94] (fun v i wr => ∃ j : Nat, j ≤ 64 ∧ i = .int .i64 j ∧ Row wr w.heap.size 3 1 v (outL f j).length ((outL f j).map (Value.int .i64)) ∧ Below w.heap.size w wr) (fun _ i _ => 64 - (intOf i).toNat)
          case atStart => exact ⟨0, by omega, rfl, Row.nil _ _ _ _, HBW.out⟩
          case round =>
            obtain ⟨j, hj, rfl, hown, hb0⟩ := hrel
            by_cases hj64 : j < 64
            · have d5 := rowOf_at (fun o => .bool (f o)) j hj64
              have hS := Lib.hid (outL_succ f j)
              have hcl := outL_len f j
              have hjz : (j : Int) < 64 := by omega
              generalize f j = sb at *
              have d5' := run_index39 wr _ j sb hj64 d5
              clear d5
              obtain ⟨A8, c8, rfl, hc8, -⟩ := hown.shape
              cases sb
              · go_wp2
                go_roundw
                case rel => exact ⟨j + 1, by omega, by go_num, by rw [hS.out]; simpa using hown, hb0⟩
                case measure => simp [intOf]; omega
              · have hsz := hb0.size
                go_wp2_with (at_builtin; refine wpList_append_row _ rfl (.tmp 99) (.tmp 101) 23 rfl w.heap.size 3 i0 (.int .i64 0) 1 8 Try.underlying23 hi hz0 hz1 hz2 rfl (by decide) (.slice A8 (outL f j).length c8) (outL f j).length ((outL f j).map (Value.int .i64)) rfl (hown.alloc _) (wr.heap.size + 1) (some ⟨wr.heap.size, 0, none⟩) 1 1 [.int .i64 j] rfl (reads_one wr _ 3) (by simp [Value.oneCell']) (by unfold maxLen; omega) (by omega) (by simp; omega) ?_)
                intro A9 c9 w9 hr9 hg9 ho9
                have hr9' : Row w9 w.heap.size 3 1 (.slice A9 (outL f (j + 1)).length c9) (outL f (j + 1)).length ((outL f (j + 1)).map (Value.int .i64)) := by
                  rw [hS.out]; simpa using hr9
                have hl9 : (outL f (j + 1)).length = (outL f j).length + 1 := by rw [hS.out]; simp
                have hb9 := ((hb0.alloc hb0.size _).grown hg9 (by simp; omega) (fun k hk => (hown.lt k hk).1))
                rw [hl9] at hr9'
                go_wp2
                go_roundw
                case rel => exact ⟨j + 1, by omega, by go_num, by rw [hl9]; exact hr9', hb9⟩
                case measure => simp [intOf]; omega
            · obtain rfl : j = 64 := by omega
              obtain ⟨A8, c8, rfl, hc8, -⟩ := hown.shape
              go_wp2
              go_ret2
              exact reach_good HG.out HDONE.out rfl hown hb0
        obtain ⟨ys, m, rfl⟩ := last_split (show xs ≠ [] from fun e => by subst e; simp at hpos)
        have hok := Rch.ok HG.out.1 HG.out.2 (hwr.way.low2 m (by simp))
        obtain ⟨o, ho, rfl⟩ : ∃ o : Nat, o < 64 ∧ m = (o : Int) := ⟨m.toNat, by have := hok.1; have := hok.2; omega, by have := hok.1; omega⟩
        have hL1 : (ys ++ [(o : Int)]).length = ys.length + 1 := by simp
        have hrow := hwr.row
        rw [hL1] at hrow hlen
        obtain ⟨A7, c7, rfl, hc7, -⟩ := hrow.shape
        have HARR := Lib.hid hwr.arr
        have HWAY := Lib.hid hwr.way
        have HBW := Lib.hid hwr.bel
        have HLEN := Lib.hid hlen
        have HCU := Lib.hid (cntU_set (es := es) (f := f) (o := o))
        obtain ⟨b, q, rfl, hbb, hcel⟩ := (RD.of_row hrow).at_ (show ys.length < ys.length + 1 by omega)
        have hgt : (ys ++ [(o : Int)]).getD ys.length 0 = (o : Int) := by simp [List.getD]
        rw [hgt] at hcel
        obtain ⟨ka, kf, kl⟩ := row_cell hwr.arr ho
        have HROW := Lib.hid hrow
        have hmx : ys.length < 17592186044416 + 8796093022208 := by have := HL.out; have := HL'.out; omega
        clear hwr hok hL1 hrow hlen hgt hpos
        obtain ⟨L, hL⟩ : ∃ L, L = ys.length := ⟨_, rfl⟩
        rw [← hL] at hc7 hcel hmx HROW HLEN ⊢
        have hLl := Lib.hid hL
        clear hL
        have hoz : (o : Int) < 64 := by omega
        have hsub : (((L + 1 : Nat) : Int) - 1) = (L : Int) := by omega
        generalize hfo : f o = fo at *
        have HTK : Hid (Row wr w.heap.size 3 1 (Value.slice (some ⟨b, q, none⟩) L c7) L (ys.map (Value.int .i64))) := Lib.hid (by
          have ht := HROW.out.take (show L ≤ L + 1 by omega)
          have e : ((ys ++ [(o : Int)]).map (Value.int .i64)).take (L * 1) = ys.map (Value.int .i64) := by
            rw [Nat.mul_one, List.map_append]
            exact List.take_left' (by rw [List.length_map]; exact hLl.out.symm)
          rw [e] at ht
          exact ht)
        clear HROW
        cases fo
        · have HUN := Lib.hid (unmet_set (f := f) ho hfo)
          have HCV := Lib.hid (HCU.out rfl)
          have HW2 := Lib.hid (HWAY.out.take ho)
          have HI : Hid (IR w (setB f o) (ys ++ behind es o 0) (Value.slice (some ⟨b, q, none⟩) L c7) (wr.setCell ⟨w.heap.size, o, none⟩ (.bool true))) := Lib.hid ⟨HARR.out.set ho, by
            have := HTK.out.setCell (p := ⟨w.heap.size, o, none⟩) (HARR.out.ne HTK.out) (.bool true)
            rw [behind_zero, List.append_nil, ← hLl.out]; exact this, HBW.out.setCell (Nat.le_refl _) _⟩
          have HMS : Hid (unmet (marks w.heap.size wr) = unmet f) := Lib.hid HARR.out.marks
          clear HCU HWAY HTK HARR HBW
          go_wp2
          obtain ⟨W, hW⟩ : ∃ W, W = wr := ⟨_, rfl⟩
          subst hW
          go_loopw [7, 79] (fun v i wr => ∃ j : Nat, j ≤ k ∧ i = .int .i64 j ∧ IR w (setB f o) (ys ++ behind es o j) v wr) (fun _ i _ => k - (intOf i).toNat)
          case atStart => exact ⟨0, by omega, rfl, HI.out⟩
          case round =>
            obtain ⟨j, hj, rfl, hir⟩ := hrel
            have hbl := behind_len es (o : Int) j
            have hsz := hir.bel.size
            have hsk := HL.out
            by_cases hlt : j < k
            · obtain ⟨b2, q2, rfl, hbb2, k0, k1⟩ := RE.at_ (RS.below' h hir.bel hB) hlt
              have hjn : (j : Int) < k := by omega
              have hbr : b2 < wr.heap.size := by omega
              have HBS := Lib.hid (behind_succ es (o : Int) j (by omega))
              generalize es.getD j (0, 0) = e at *
              obtain ⟨a, z⟩ := e
              dsimp only at k0 k1
              have HIR := Lib.hid (hir.alloc (.cells #[.int .i64 a, .int .i64 z] 37))
              obtain ⟨A8, c8, rfl, hc8, -⟩ := hir.row.shape
              by_cases hao : a = (o : Int)
              · have HBS2 := Lib.hid (HBS.out.trans (by rw [if_pos hao]))
                subst hao
                obtain ⟨N, hN⟩ : ∃ N, N = (ys ++ behind es (o : Int) j).length := ⟨_, rfl⟩
                have hNN := Lib.hid hN
                have hN3 : N ≤ 17592186044416 + 8796093022208 := by
                  have := HLEN.out; have := HL.out; have := HL'.out; have := cntU_le es f
                  have : N = ys.length + (behind es (o : Int) j).length := by rw [hN]; simp
                  have := hLl.out
                  have := HCV.out
                  have := behind_mono es (o : Int) j
                  omega
                rw [← hN] at hc8
                have hrw := HIR.out.row
                rw [← hN] at hrw ⊢
                clear hir hN hbl HBS
                go_wp2_with (at_builtin; refine wpList_append_rowF _ rfl (.tmp 87) (.tmp 90) 23 rfl w.heap.size 3 i0 (.int .i64 0) 1 8 Try.underlying23 hi hz0 hz1 hz2 rfl (by decide) (.slice A8 N c8) N ((ys ++ behind es (o : Int) j).map (Value.int .i64)) rfl (hrw.alloc _) (wr.heap.size + 2) (some ⟨wr.heap.size + 1, 0, none⟩) 1 1 [.int .i64 z] rfl (reads_two wr _ _ 3) (by simp [Value.oneCell']) (by unfold maxLen; omega) (by omega) (fit_one (by omega)) (by simp; omega) ?_)
                intro A9 c9 w9 hr9 hg9 ho9
                have hl9 : (ys ++ behind es (o : Int) (j + 1)).length = N + 1 := by rw [HBS2.out, ← List.append_assoc, List.length_append, ← hNN.out]; rfl
                have hr9' : Row w9 w.heap.size 3 1 (.slice A9 (ys ++ behind es (o : Int) (j + 1)).length c9) (ys ++ behind es (o : Int) (j + 1)).length ((ys ++ behind es (o : Int) (j + 1)).map (Value.int .i64)) := by
                  rw [hl9, HBS2.out]; simpa using hr9
                have HI9 := Lib.hid ((HIR.out.alloc (.cells #[.int .i64 z] 3)).grown (v' := .slice A9 (ys ++ behind es (o : Int) (j + 1)).length c9) (xs' := ys ++ behind es (o : Int) (j + 1)) (by rw [← hNN.out]; exact hg9) hr9')
                rw [hl9] at HI9
                clear hl9 hr9 hr9' hg9 ho9
                go_wp2
                go_roundw
                case rel => exact ⟨j + 1, by omega, by go_num, HI9.out⟩
                case measure => simp [intOf]; omega
              · have HBS2 := Lib.hid (HBS.out.trans (by rw [if_neg hao, List.append_nil]))
                have d : (a == (o : Int)) = false := by simpa using hao
                clear hao
                clear hir
                go_wp2
                go_roundw
                case rel => exact ⟨j + 1, by omega, by go_num, by rw [HBS2.out]; exact HIR.out⟩
                case measure => simp [intOf]; omega
            · obtain rfl : j = k := by omega
              obtain ⟨A8, c8, rfl, hc8, -⟩ := hir.row.shape
              have HIR := Lib.hid hir
              clear hir hbl
              go_wp2
              have ej : j = es.length := HL.out.symm
              have hb4 := behind_len es (o : Int) es.length
              have eL := hLl.out
              have e1 := HUN.out
              refine ⟨⟨setB f o, ys ++ behind es (o : Int) j, HIR.out.arr, HIR.out.row, by rw [ej]; exact HW2.out, ?_, HIR.out.bel⟩, ?_⟩
              · have := HLEN.out; have := HCV.out
                rw [ej, List.length_append]; omega
              · rw [HIR.out.arr.marks, HMS.out, ← e1, Nat.add_mul, ej]
                simp only [lenV, List.length_append]
                generalize unmet (setB f o) * (es.length + 1) = q9
                omega
        · go_wp2
          exact ⟨⟨f, ys, HARR.out, by rw [← hLl.out]; exact HTK.out, HWAY.out.skip ⟨o, ho, hfo, rfl⟩, by have := HLEN.out; have := hLl.out; omega, HBW.out⟩, by simp [lenV]⟩
end Go.Proofs.Ytmfalafolpfhiaa
