/- Contract of obj.Encode. -/
import Derived.Test.YtgmpcdonmlhohaaObO
import Derived.Deep.DeepCutAuto
import Derived.Deep.CutBlock
namespace Go.Proofs.Ytgmpcdonmlhohaa
open Go.RowKit
set_option maxHeartbeats 400000
set_option linter.unusedVariables false
set_option linter.unusedSimpArgs false
theorem u32_low (x : Int) (h : 0 ≤ x ∧ x < 4294967296) : bits .and .u32 x 65535 = x % 65536 := by
  have h3 : (BitVec.ofInt 32 65535).toNat = 2 ^ 16 - 1 := by decide
  have key : (BitVec.ofInt 32 x &&& BitVec.ofInt 32 65535).toNat = (x % ((2 ^ 32 : Nat) : Int)).toNat % 2 ^ 16 := by
    rw [BitVec.toNat_and, BitVec.toNat_ofInt, h3, Nat.and_two_pow_sub_one_eq_mod]
  show IntKind.u32.wrap ((BitVec.ofInt 32 x &&& BitVec.ofInt 32 65535).toNat : Nat) = x % 65536
  rw [key, IntKind.wrap_u32]
  omega
theorem Byt.app {xs ys : List Int} (h : Byt xs) (h' : Byt ys) : Byt (xs ++ ys) := fun y hy => by
  rcases List.mem_append.1 hy with hy | hy
  · exact h y hy
  · exact h' y hy
theorem Byt.flat {α : Type} {f : α → List Int} {xs : List α} (h : ∀ x ∈ xs, Byt (f x)) : Byt (xs.flatMap f) := fun y hy => by
  obtain ⟨x, hx, hy⟩ := List.mem_flatMap.1 hy
  exact h x hx y hy
theorem Byt.one {x : Int} (h : 0 ≤ x ∧ x < 256) : Byt [x] := fun y hy => by
  rw [List.mem_singleton.1 hy]; omega
theorem objI_byt {ws bs : List Int} {n0 n1 n2 n3 : Nat} {ns : List Nm} {ds : List Nd} (hws : ∀ x ∈ ws, 0 ≤ x ∧ x < 4294967296) (hbs : Byt bs) (h0 : n0 ≤ 128) (h1 : n1 ≤ 256) (h2 : n2 ≤ 24) (h3 : n3 ≤ 40) (hns : ∀ n ∈ ns, NmFit n) (hds : ∀ n ∈ ds, NdFit n) : Byt (objI ws bs n0 n1 n2 n3 ns ds) := by
  have t : ∀ x : Int, 0 ≤ x ∧ x < 65536 → Byt (twoI x) := twoI_byt
  unfold objI namesI dataI wordsI
  have a1 : Byt [82, 79, 49] := fun y hy => by simp at hy; omega
  have a2 : Byt (ws.flatMap wordI) := Byt.flat fun x hx => by have := hws x hx; exact Byt.app (t _ (by omega)) (t _ (by omega))
  have a3 : Byt (ns.flatMap nmI) := Byt.flat fun n hn => by
    obtain ⟨a, b, c, d⟩ := hns n hn
    exact Byt.app (Byt.app (Byt.app (Byt.one (by omega)) (numI_byt _)) (t _ (by split <;> omega))) (t _ (by omega))
  have a4 : Byt (ds.flatMap ndI) := Byt.flat fun n hn => by
    obtain ⟨a, b, c, d, e⟩ := hds n hn
    exact Byt.app (Byt.app (Byt.app (Byt.one (by omega)) (numI_byt _)) (t _ (by omega))) (t _ (by omega))
  exact Byt.app (Byt.app (Byt.app (Byt.app (Byt.app (Byt.app (Byt.app (Byt.app a1 (t _ (by omega))) a2) (t _ (by omega))) hbs) (t _ (by omega))) a3) (t _ (by omega))) a4
theorem w64_id (x : Int) (h : 0 ≤ x ∧ x < 4294967296) : wrap64 x = x := by unfold wrap64; omega
set_option maxHeartbeats 4000000 in
set_option maxRecDepth 100000 in
theorem enc_any (o : Ob) (w : World) (B : Nat) (ws bs : List Int) (h : o.Full w B ws bs) (hws : ∀ x ∈ ws, 0 ≤ x ∧ x < 4294967296) (hB : B ≤ w.heap.size) :
    Calls Try.prog 13 #[.agg o.vals] w (BytesPost w o ws bs) := by
  have hb0 : Below w.heap.size w (w.alloc (.cells o.vals 38)) := (Below.refl _ _).alloc (Nat.le_refl _) _
  have hbox0 : Blk (w.alloc (.cells o.vals 38)) w.heap.size o.vals 38 := Blk.new w _ 38
  have HCK := Lib.hid (check_any o (w.alloc (.cells o.vals 38)) B (h.read.below' hb0 hB) (by have := hb0.size; omega))
  generalize hE : objErr o = E at *
  have HE := Lib.hid hE
  clear hE
  obtain ⟨i0, hi, hz0, hz1, hz2⟩ := info_parts infoB
  obtain ⟨A0, n0, c0, A1, n1, c1, A2, n2, c2, A3, n3, c3, ns, ds⟩ := o
  have HFull := Lib.hid h
  dsimp only [Ob.vals] at hb0 hbox0 HCK ⊢
  go_enter Try.func13, Try.ntmps13
  go_wp2_with fail
  refine HCK.out.mono ?_
  rintro e w1 ⟨rfl, hb1⟩
  have hbw1 : Below w.heap.size w w1 := hb0.trans (hb1.mono hb0.size)
  have hbox1 := hbox0.fr (Fr.of_grow hb1) (fun h => h)
  by_cases hz : E = 0
  · subst hz
    have HFit := Lib.hid (obj_zero _ HE.out)
    have hbA := hb1.size
    simp at hbA
    have hcv := Lib.run_convert_bytes_const (P := Try.prog) w1 35 5 #[.int .u8 82, .int .u8 79, .int .u8 49] 3 3 Try.underlying35 Try.underlying5
    have hc1 := hbox1.cell
    have hl1 := hbox1.lt
    have hb4 := Lib.hid ((hbw1.alloc hbw1.size (.cells #[.int .u8 82, .int .u8 79, .int .u8 49] 5 (3, 4))).alloc (hbw1.alloc hbw1.size _).size (.cells #[.slice (some ⟨w1.heap.size, 0, none⟩) 3 3] 74))
    have hbox4 := Lib.hid ((hbox1.alloc (.cells #[.int .u8 82, .int .u8 79, .int .u8 49] 5 (3, 4))).alloc (.cells #[.slice (some ⟨w1.heap.size, 0, none⟩) 3 3] 74))
    have hg4 : Hid (Blk ((w1.alloc (.cells #[.int .u8 82, .int .u8 79, .int .u8 49] 5 (3, 4))).alloc (.cells #[.slice (some ⟨w1.heap.size, 0, none⟩) 3 3] 74)) (w1.heap.size + 1) #[.slice (some ⟨w1.heap.size, 0, none⟩) 3 3] 74) := by
      have := Blk.new (w1.alloc (.cells #[.int .u8 82, .int .u8 79, .int .u8 49] 5 (3, 4))) #[.slice (some ⟨w1.heap.size, 0, none⟩) 3 3] 74
      exact Lib.hid (by simpa using this)
    have hrd4 : Hid (Reads ((w1.alloc (.cells #[.int .u8 82, .int .u8 79, .int .u8 49] 5 (3, 4))).alloc (.cells #[.slice (some ⟨w1.heap.size, 0, none⟩) 3 3] 74)) ((w1.alloc (.cells #[.int .u8 82, .int .u8 79, .int .u8 49] 5 (3, 4))).alloc (.cells #[.slice (some ⟨w1.heap.size, 0, none⟩) 3 3] 74)).heap.size 1 (some ⟨w1.heap.size, 0, none⟩) 3 (([82, 79, 49] : List Int).map (Value.int .u8))) := by
      refine Lib.hid ⟨rfl, fun _ => ⟨w1.heap.size, 0, rfl, by simp; omega, fun j u hu => ?_⟩⟩
      have h1 : (w1.alloc (.cells #[.int .u8 82, .int .u8 79, .int .u8 49] 5 (3, 4))).heap[w1.heap.size]? = some (.cells #[.int .u8 82, .int .u8 79, .int .u8 49] 5 (3, 4)) := heap_alloc_new w1 _
      have h2 := (Below.heap_alloc (w1.alloc (.cells #[.int .u8 82, .int .u8 79, .int .u8 49] 5 (3, 4))) (.cells #[.slice (some ⟨w1.heap.size, 0, none⟩) 3 3] 74) w1.heap.size (by simp)).trans h1
      have h3 := cell_of_row _ w1.heap.size (0 + j) _ _ _ h2
      rw [h3, Nat.zero_add]
      simpa using hu
    have hn0 : n0 ≤ 128 := HFit.out.n0
    go_wp2_with fail
    refine (half_first (w1.heap.size + 1) (w.heap.size + 1) w1.heap.size 0 3 [82, 79, 49] (n0 : Int) _ hg4.out hrd4.out (by omega) (by omega) (by omega)).mono ?_
    rintro e w5 ⟨rfl, v5, hws5, hfr5⟩
    have hE5 : Hid (Enc w w5 (w1.heap.size + 1) ⟨A0, n0, c0, A1, n1, c1, A2, n2, c2, A3, n3, c3, ns, ds⟩ v5 5 ([82, 79, 49] ++ twoI (n0 : Int))) :=
      Lib.hid ⟨hb4.out.trans (hfr5.below hb4.out.size (fun k e => by omega)), hbox4.out.fr hfr5 (by omega), hws5⟩
    clear hws5 hfr5 hg4 hrd4 hb4 hbox4 hcv hc1 hl1 hbox1 hbw1 hb1 hbox0 hb0 HCK
    have hbx := hE5.out.box
    have hc5 := hbx.cell
    have hl5 := hbx.lt
    simp only [Ob.vals] at hc5
    go_wp2_with fail
    clear hc5 hl5 hbx hbA
    go_loopw [30] (fun i wr => ∃ (k : Nat) (v : Value), k ≤ n0 ∧ i = .int .i64 k ∧ Hid (Enc w wr (w1.heap.size + 1) ⟨A0, n0, c0, A1, n1, c1, A2, n2, c2, A3, n3, c3, ns, ds⟩ v (5 + 4 * k) ([82, 79, 49] ++ twoI (n0 : Int) ++ (ws.take k).flatMap wordI))) (fun i _ => n0 - (intOf i).toNat)
    case atStart => exact ⟨0, v5, by omega, rfl, by simpa using hE5⟩
    case round =>
      clear hE5
      obtain ⟨k, v, hk, rfl, hE⟩ := hrel
      by_cases hlt : k < n0
      · obtain ⟨b, o, rfl, hbB, z0⟩ := (HFull.out.rw.below' hE.out.below hB).at_ hlt
        have hwl : k < ws.length := by rw [HFull.out.rw.len]; exact hlt
        have HS := Lib.hid (flat_take wordI 0 ws k hwl)
        have hx : 0 ≤ ws.getD k 0 ∧ ws.getD k 0 < 4294967296 := hws _ (by rw [List.getD_eq_getElem?_getD, List.getElem?_eq_getElem hwl]; exact List.getElem_mem hwl)
        generalize ws.getD k 0 = x at *
        have ha := u32_low x hx
        have ha2 := w64_id (x % 65536) (by omega)
        go_wp2_with fail
        refine (half_any (w1.heap.size + 1) (w.heap.size + 1) (5 + 4 * k) v _ (x % 65536) wr hE.out.wr (by omega) (by omega)).mono ?_
        rintro e w6 ⟨rfl, v6, hw6, hf6⟩
        have hE6 := Lib.hid (hE.out.step hw6 hf6)
        clear hw6 hf6 hE z0
        go_wp2_with fail
        refine (half_any (w1.heap.size + 1) (w.heap.size + 1) (5 + 4 * k + 2) v6 _ (x / 65536) w6 hE6.out.wr (by omega) (by omega)).mono ?_
        rintro e w7 ⟨rfl, v7, hw7, hf7⟩
        have hE7 := Lib.hid (hE6.out.step hw7 hf7)
        clear hw7 hf7 hE6
        go_wp2
        go_roundw
        case rel => exact ⟨k + 1, v7, by omega, by go_num, Lib.hid (by rw [HS.out, show 5 + 4 * (k + 1) = 5 + 4 * k + 2 + 2 from by omega]; have := hE7.out; simpa [wordI] using this)⟩
        case measure => simp [intOf]; omega
      · have hk0 : k = n0 := by omega
        subst hk0
        have hE1 : Hid (Enc w wr (w1.heap.size + 1) ⟨A0, k, c0, A1, n1, c1, A2, n2, c2, A3, n3, c3, ns, ds⟩ v (5 + 4 * k) (wordsI ws k)) := Lib.hid (by
          have := hE.out
          rw [List.take_of_length_le (by rw [HFull.out.rw.len]; exact Nat.le_refl _)] at this
          exact this)
        clear hE hlt hk
        have hc5 := hE1.out.box.cell
        have hl5 := hE1.out.box.lt
        simp only [Ob.vals] at hc5
        have hn1 : n1 ≤ 256 := HFit.out.n1
        go_wp2_with fail
        refine (half_any (w1.heap.size + 1) (w.heap.size + 1) (5 + 4 * k) v _ (n1 : Int) wr hE1.out.wr (by omega) (by omega)).mono ?_
        rintro e w8 ⟨rfl, v8, hw8, hf8⟩
        have hE8 := Lib.hid (hE1.out.step hw8 hf8)
        clear hw8 hf8 hE1 hc5 hl5
        obtain ⟨A8, c8, rfl, hnc8, hcm8⟩ := hE8.out.wr.row.shape
        have hcb8 := hE8.out.box.cell
        have hlb8 := hE8.out.box.lt
        simp only [Ob.vals] at hcb8
        have hcw8 := hE8.out.wr.blk.cell
        have hlw8 := hE8.out.wr.blk.lt
        have hrb8 := Lib.hid (HFull.out.rb.below' hE8.out.below hB)
        have hby1 : bs.length = n1 := HFull.out.rb.len
        go_upto_region 13 with fail
        go_cut [] (fun wx => ∃ v, Hid (Enc w wx (w1.heap.size + 1) ⟨A0, k, c0, A1, n1, c1, A2, n2, c2, A3, n3, c3, ns, ds⟩ v (5 + 4 * k + 2 + n1) (dataI ws bs k n1)))
        case first =>
          go_region_law (refine step_append_row rfl (.tmp 54) (.tmp 56) 35 rfl (w.heap.size + 1) 5 i0 (.int .u8 0) 1 1 Try.underlying35 hi hz0 hz1 hz2 rfl (by decide) (.slice A8 (5 + 4 * k + 2) c8) (5 + 4 * k + 2) ((wordsI ws k ++ twoI (n1 : Int)).map (Value.int .u8)) (by simp [Act.eval, Act.put]) (hE8.out.wr.row.drew) B A1 n1 c1 (bs.map (Value.int .u8)) (by simp [Act.eval, Act.put]) (show Reads w8.drew B 1 A1 n1 (bs.map (Value.int .u8)) from hrb8.out.1) (one_i bs) (by unfold maxLen; omega) (by omega) (by have := hE8.out.below.size; simp; omega) ?_; intro A9 c9 w9 hr9 hg9 ho9; have hb9 := Blk.grown (Blk.drew hE8.out.wr.blk) hg9 (fun e => row_blk hE8.out.wr.row hE8.out.wr.blk (by decide) e.symm); have hc9 := hb9.cell; have hf9 := hb9.free; have hlt9 := hb9.lt)
          all_goals
            obtain ⟨v9, hst9, hfr9⟩ := WS.stored (zs := dataI ws bs k n1) hE8.out.wr ((Below.refl w8.heap.size w8).drew) hg9 (ys := wordsI ws k ++ twoI (n1 : Int) ++ bs) (by rw [List.map_append]; exact hr9) rfl
            have hE9 := Lib.hid (hE8.out.step hst9 hfr9)
            clear hst9 hfr9 hr9 hg9 ho9 hc9 hf9 hlt9 hb9
            go_wp2
            go_meet
            exact ⟨v9, hE9⟩
        case rest =>
          obtain ⟨v9, hE9⟩ := hcut
          clear hE8 hcb8 hlb8 hcw8 hlw8 hrb8 hby1 hnc8 hcm8
          have hc9 := hE9.out.box.cell
          have hl9 := hE9.out.box.lt
          simp only [Ob.vals] at hc9
          have hn2 : n2 ≤ 24 := HFit.out.n2
          have hn3 : n3 ≤ 40 := HFit.out.n3
          go_wp2_with fail
          refine (half_any (w1.heap.size + 1) (w.heap.size + 1) (5 + 4 * k + 2 + n1) v9 _ (n2 : Int) _ hE9.out.wr (by omega) (by omega)).mono ?_
          rintro e w10 ⟨rfl, v10, hw10, hf10⟩
          have hE10 := Lib.hid (hE9.out.step hw10 hf10)
          clear hw10 hf10 hE9 hc9 hl9
          have hc10 := hE10.out.box.cell
          have hl10 := hE10.out.box.lt
          simp only [Ob.vals] at hc10
          go_wp2_with fail
          clear hc10 hl10
          go_loopw [68] (fun i wr => ∃ (j m : Nat) (v : Value), j ≤ n2 ∧ m ≤ 2000 + 300 * j ∧ i = .int .i64 j ∧ Hid (Enc w wr (w1.heap.size + 1) ⟨A0, k, c0, A1, n1, c1, A2, n2, c2, A3, n3, c3, ns, ds⟩ v m (dataI ws bs k n1 ++ twoI (n2 : Int) ++ (ns.take j).flatMap nmI))) (fun i _ => n2 - (intOf i).toNat)
          case atStart => exact ⟨0, 5 + 4 * k + 2 + n1 + 2, v10, by omega, by omega, rfl, by simpa using hE10⟩
          case round =>
            clear hE10
            obtain ⟨j, m, v, hj, hm, rfl, hE⟩ := hrel
            by_cases hjl : j < n2
            · obtain ⟨b, o, e2, hbB, hfn, z0, z1, z2, z3⟩ := (HFull.out.read.ns.below' hE.out.below hB).at_ hjl
              have hnl : j < ns.length := by rw [HFull.out.read.ns.len]; exact hjl
              have HS := Lib.hid (flat_take nmI Nm.zero ns j hnl)
              have hfit := HFit.out.ns (ns.getD j .zero) (by rw [List.getD_eq_getElem?_getD, List.getElem?_eq_getElem hnl]; exact List.getElem_mem hnl)
              subst e2
              obtain ⟨f1, f2, f3, f4⟩ := hfit
              generalize ns.getD j .zero = y at *
              have hjl' : (j : Int) < n2 := by omega
              have hbx : Blk (wr.alloc (.cells #[.string y.s, .int .i64 y.wh, .int .i64 y.ad, .bool y.wk] 69)) wr.heap.size #[.string y.s, .int .i64 y.wh, .int .i64 y.ad, .bool y.wk] 69 := Blk.new _ _ _
              have hEa := hE.out.alloc (.cells #[.string y.s, .int .i64 y.wh, .int .i64 y.ad, .bool y.wk] 69)
              have HEA := Lib.hid hEa
              have HBX := Lib.hid hbx
              clear hEa hE
              have hc0 := hbx.cell
              go_wp2_with fail
              refine (text_any (w1.heap.size + 1) (w.heap.size + 1) m v _ y.s _ HEA.out.wr f1 (by omega)).mono ?_
              rintro e w11 ⟨rfl, v11, hw11, hf11⟩
              have hE11 := Lib.hid (HEA.out.step hw11 hf11)
              have hbx11 := HEA.out.wr.keeps HBX.out (by decide) (by decide) hf11
              clear hw11 hf11 hbx hc0 z0 z1 z2 z3
              have hc1 := hbx11.cell
              have hl1 := hbx11.lt
              cases hwk : y.wk with
              | true =>
                rw [hwk] at hc1
                have HW := Lib.hid (show nmI y = [(y.s.size : Int)] ++ numI y.s ++ twoI (y.wh + 4) ++ twoI y.ad by simp [nmI, hwk])
                clear hwk
                go_wp2_with fail
                refine (half_any (w1.heap.size + 1) (w.heap.size + 1) (m + 1 + y.s.size) v11 _ (y.wh + 4) _ hE11.out.wr (by omega) (by omega)).mono ?_
                rintro e w12 ⟨rfl, v12, hw12, hf12⟩
                have hE12 := Lib.hid (hE11.out.step hw12 hf12)
                have hbx12 := hE11.out.wr.keeps hbx11 (by decide) (by decide) hf12
                clear hw12 hf12 hE11 hbx11 hc1 hl1
                have hc2 := hbx12.cell
                have hl2 := hbx12.lt
                go_wp2_with fail
                refine (half_any (w1.heap.size + 1) (w.heap.size + 1) (m + 1 + y.s.size + 2) v12 _ y.ad _ hE12.out.wr (by omega) (by omega)).mono ?_
                rintro e w13 ⟨rfl, v13, hw13, hf13⟩
                have hE13 := Lib.hid (hE12.out.step hw13 hf13)
                clear hw13 hf13 hE12 hbx12 hc2 hl2
                go_wp2
                go_roundw
                case rel => exact ⟨j + 1, m + 1 + y.s.size + 2 + 2, v13, by omega, by omega, by go_num, Lib.hid (by rw [HS.out, HW.out]; have := hE13.out; simpa using this)⟩
                case measure => simp [intOf]; omega
              | false =>
                rw [hwk] at hc1
                have HW := Lib.hid (show nmI y = [(y.s.size : Int)] ++ numI y.s ++ twoI y.wh ++ twoI y.ad by simp [nmI, hwk])
                clear hwk
                go_wp2_with fail
                refine (half_any (w1.heap.size + 1) (w.heap.size + 1) (m + 1 + y.s.size) v11 _ y.wh _ hE11.out.wr (by omega) (by omega)).mono ?_
                rintro e w12 ⟨rfl, v12, hw12, hf12⟩
                have hE12 := Lib.hid (hE11.out.step hw12 hf12)
                have hbx12 := hE11.out.wr.keeps hbx11 (by decide) (by decide) hf12
                clear hw12 hf12 hE11 hbx11 hc1 hl1
                have hc2 := hbx12.cell
                have hl2 := hbx12.lt
                go_wp2_with fail
                refine (half_any (w1.heap.size + 1) (w.heap.size + 1) (m + 1 + y.s.size + 2) v12 _ y.ad _ hE12.out.wr (by omega) (by omega)).mono ?_
                rintro e w13 ⟨rfl, v13, hw13, hf13⟩
                have hE13 := Lib.hid (hE12.out.step hw13 hf13)
                clear hw13 hf13 hE12 hbx12 hc2 hl2
                go_wp2
                go_roundw
                case rel => exact ⟨j + 1, m + 1 + y.s.size + 2 + 2, v13, by omega, by omega, by go_num, Lib.hid (by rw [HS.out, HW.out]; have := hE13.out; simpa using this)⟩
                case measure => simp [intOf]; omega
            · have hj0 : j = n2 := by omega
              subst hj0
              have hE1 : Hid (Enc w wr (w1.heap.size + 1) ⟨A0, k, c0, A1, n1, c1, A2, j, c2, A3, n3, c3, ns, ds⟩ v m (namesI ws bs k n1 j ns)) := Lib.hid (by
                have := hE.out
                rw [List.take_of_length_le (by rw [HFull.out.read.ns.len]; exact Nat.le_refl _)] at this
                exact this)
              clear hE hjl hj
              have hc5 := hE1.out.box.cell
              have hl5 := hE1.out.box.lt
              simp only [Ob.vals] at hc5
              go_wp2_with fail
              refine (half_any (w1.heap.size + 1) (w.heap.size + 1) m v _ (n3 : Int) _ hE1.out.wr (by omega) (by omega)).mono ?_
              rintro e w14 ⟨rfl, v14, hw14, hf14⟩
              have hE14 := Lib.hid (hE1.out.step hw14 hf14)
              clear hw14 hf14 hE1 hc5 hl5
              have hc6 := hE14.out.box.cell
              have hl6 := hE14.out.box.lt
              simp only [Ob.vals] at hc6
              go_wp2_with fail
              clear hc6 hl6
              go_loopw [98] (fun i wr => ∃ (q m : Nat) (v : Value), q ≤ n3 ∧ m ≤ 10000 + 300 * q ∧ i = .int .i64 q ∧ Hid (Enc w wr (w1.heap.size + 1) ⟨A0, k, c0, A1, n1, c1, A2, j, c2, A3, n3, c3, ns, ds⟩ v m (namesI ws bs k n1 j ns ++ twoI (n3 : Int) ++ (ds.take q).flatMap ndI))) (fun i _ => n3 - (intOf i).toNat)
              case atStart => exact ⟨0, m + 2, v14, by omega, by omega, rfl, by simpa using hE14⟩
              case round =>
                clear hE14
                obtain ⟨q, m, v, hq, hm, rfl, hE⟩ := hrel
                by_cases hql : q < n3
                · obtain ⟨b, o, e2, hbB, hfn, z0, z1, z2⟩ := (HFull.out.read.ds.below' hE.out.below hB).at_ hql
                  have hnl : q < ds.length := by rw [HFull.out.read.ds.len]; exact hql
                  have HS := Lib.hid (flat_take ndI Nd.zero ds q hnl)
                  have hfit := HFit.out.ds (ds.getD q .zero) (by rw [List.getD_eq_getElem?_getD, List.getElem?_eq_getElem hnl]; exact List.getElem_mem hnl)
                  subst e2
                  obtain ⟨f1, f2, f3, f4, f5⟩ := hfit
                  generalize ds.getD q .zero = y at *
                  have hql' : (q : Int) < n3 := by omega
                  have hbx : Blk (wr.alloc (.cells #[.int .i64 y.ad, .string y.s, .int .i64 y.k] 79)) wr.heap.size #[.int .i64 y.ad, .string y.s, .int .i64 y.k] 79 := Blk.new _ _ _
                  have HEA := Lib.hid (hE.out.alloc (.cells #[.int .i64 y.ad, .string y.s, .int .i64 y.k] 79))
                  have HBX := Lib.hid hbx
                  clear hE
                  have hc0 := hbx.cell
                  have HW := Lib.hid (show ndI y = [(y.s.size : Int)] ++ numI y.s ++ twoI y.k ++ twoI y.ad from rfl)
                  go_wp2_with fail
                  refine (text_any (w1.heap.size + 1) (w.heap.size + 1) m v _ y.s _ HEA.out.wr f1 (by omega)).mono ?_
                  rintro e w11 ⟨rfl, v11, hw11, hf11⟩
                  have hE11 := Lib.hid (HEA.out.step hw11 hf11)
                  have hbx11 := HEA.out.wr.keeps HBX.out (by decide) (by decide) hf11
                  clear hw11 hf11 hbx hc0 z0 z1 z2
                  have hc1 := hbx11.cell
                  have hl1 := hbx11.lt
                  go_wp2_with fail
                  refine (half_any (w1.heap.size + 1) (w.heap.size + 1) (m + 1 + y.s.size) v11 _ y.k _ hE11.out.wr (by omega) (by omega)).mono ?_
                  rintro e w12 ⟨rfl, v12, hw12, hf12⟩
                  have hE12 := Lib.hid (hE11.out.step hw12 hf12)
                  have hbx12 := hE11.out.wr.keeps hbx11 (by decide) (by decide) hf12
                  clear hw12 hf12 hE11 hbx11 hc1 hl1
                  have hc2 := hbx12.cell
                  have hl2 := hbx12.lt
                  go_wp2_with fail
                  refine (half_any (w1.heap.size + 1) (w.heap.size + 1) (m + 1 + y.s.size + 2) v12 _ y.ad _ hE12.out.wr (by omega) (by omega)).mono ?_
                  rintro e w13 ⟨rfl, v13, hw13, hf13⟩
                  have hE13 := Lib.hid (hE12.out.step hw13 hf13)
                  clear hw13 hf13 hE12 hbx12 hc2 hl2
                  go_wp2
                  go_roundw
                  case rel => exact ⟨q + 1, m + 1 + y.s.size + 2 + 2, v13, by omega, by omega, by go_num, Lib.hid (by rw [HS.out, HW.out]; have := hE13.out; simpa using this)⟩
                  case measure => simp [intOf]; omega
                · have hq0 : q = n3 := by omega
                  subst hq0
                  have hE1 : Hid (Enc w wr (w1.heap.size + 1) ⟨A0, k, c0, A1, n1, c1, A2, j, c2, A3, q, c3, ns, ds⟩ v m (objI ws bs k n1 j q ns ds)) := Lib.hid (by
                    have := hE.out
                    rw [List.take_of_length_le (by rw [HFull.out.read.ds.len]; exact Nat.le_refl _)] at this
                    exact this)
                  clear hE hql hq
                  obtain ⟨A15, c15, hv15, hnc15, hcm15⟩ := hE1.out.wr.row.shape
                  subst hv15
                  have hcw := hE1.out.wr.blk.cell
                  have hlw := hE1.out.wr.blk.lt
                  have HRB : Hid (RB wr wr.heap.size A15 m (objI ws bs k n1 j q ns ds)) := Lib.hid ⟨hE1.out.wr.row.reads, objI_byt hws HFull.out.rb.2 hn0 hn1 hn2 hn3 HFit.out.ns HFit.out.ds⟩
                  have HLO := Lib.hid hE1.out.below
                  clear hE1
                  go_wp2_with fail
                  refine (cloneB_any A15 m c15 _ _ _ HRB.out (Nat.le_refl _) (by omega)).mono ?_
                  rintro e w16 ⟨v16, rfl, ⟨A16, c16, hv16, hr16⟩, hb16⟩
                  subst hv16
                  have hfin : Hid (BytesPost w ⟨A0, k, c0, A1, n1, c1, A2, j, c2, A3, q, c3, ns, ds⟩ ws bs (.returned (.tuple #[.slice A16 m c16, .int .i64 0])) w16) := Lib.hid
                    ⟨.slice A16 m c16, m, by rw [HE.out], ⟨A16, c16, rfl, by rw [if_pos HE.out]; exact hr16.base_le HLO.out.size⟩, HLO.out.trans (hb16.mono HLO.out.size)⟩
                  clear hr16 hb16 hcw hlw
                  go_wp2
                  go_ret2
                  exact hfin.out
  · have hz' : (E != 0) = true := by simpa using hz
    go_wp2
    refine bodyPost_ret (v := .tuple #[.slice none 0 0, .int .i64 E]) (by simp [results, Try.results13, go_sem]) rfl ?_
    exact ⟨.slice none 0 0, 0, by rw [HE.out], by rw [HE.out, if_neg hz]; exact ⟨none, 0, rfl, Row.nil _ _ _ _⟩, hbw1⟩
end Go.Proofs.Ytgmpcdonmlhohaa
