/- The law ringlaw1.GracePlays: small laws for its loops, and the tail of a round. -/
import Derived.Test.YtjcbnanajelpjaaGrX
import Derived.Deep.DeepCutAuto
import Derived.Deep.CutBlock
namespace Go.Proofs.Ytjcbnanajelpjaa
open Go.RowKit
set_option maxHeartbeats 400000
set_option linter.unusedVariables false
set_option linter.unusedSimpArgs false
theorem leave_none0 (g : Nat) (w : World) (B : Nat) (h : GrSt w B g (fun _ => 0) (fun _ => 0) (.slice none 0 0) []) :
    Calls Try.prog 57 #[.pointer (some ⟨g, 0, none⟩), .int .i64 0] w fun e w' => e = .returned (.int .i64 8) ∧ w = w' := leave_none g _ _ _ _ w B h 0 (by omega) rfl
theorem enter_any0 (g : Nat) (w : World) (B : Nat) (h : GrSt w B g (fun _ => 0) (fun _ => 0) (.slice none 0 0) []) :
    Calls Try.prog 58 #[.pointer (some ⟨g, 0, none⟩), .int .i64 0] w (EntGo w B g (.slice none 0 0) (fun _ => 0) (fun _ => 0) [] 0) := enter_any g _ _ _ _ w B h 0 (by omega) (by omega) (by omega)
def d1 : Nat → Int := upd (fun _ => 0) 0 1
theorem new_st (w : World) (B : Nat) (hB : B ≤ w.heap.size) : GrSt (w.alloc (.cells (gcells (fun _ => 0) (fun _ => 0) (.slice none 0 0)) 130)) B w.heap.size (fun _ => 0) (fun _ => 0) (.slice none 0 0) [] :=
  ⟨Blk.new _ _ _, Row.nil _ _ _ _, hB, by simp [Value.ownBlock]⟩
theorem Both.start {w w1 : World} (hb : Below w.heap.size w w1) : Both w ((w1.alloc (.cells (gcells (fun _ => 0) (fun _ => 0) (.slice none 0 0)) 130)).alloc (.cells (dcells fun _ => 0) 102)) w1.heap.size (.slice none 0 0) (fun _ => 0) (fun _ => 0) [] (w1.heap.size + 1) (fun _ => 0) (.slice none 0 0) (rowsL (fun _ => 0) (fun _ => 0) []) := by
  refine ⟨(new_st w1 w.heap.size hb.size).keep ((Fr.refl Nil _).alloc _) (fun _ _ h => h), ⟨?_, Row.nil _ _ _ _, by have := hb.size; omega, by simp [Value.ownBlock]⟩, fun k hk hf => ?_, (hb.alloc hb.size _).alloc (by have := hb.size; simp; omega) _⟩
  · have := Blk.new (w1.alloc (.cells (gcells (fun _ => 0) (fun _ => 0) (.slice none 0 0)) 130)) (dcells fun _ => 0) 102
    simpa using this
  · rcases hk with rfl | hk
    · rcases hf with hf | hf
      · omega
      · simp [Value.ownBlock] at hf
    · simp [Value.ownBlock] at hk
theorem Fit.start : Fit 0 (fun _ => 0) (fun _ => 0) [] := ⟨by simp, fun k _ => by simp, fun c hc => by simp at hc⟩
theorem ovs_first : (ovs d1 d1 [newC 5 d1 d1]).length = 0 := by decide
def cpuB (x : Int) : Bool := decide (0 ≤ x ∧ x < 4)
def CutRel (w : World) (j g q : Nat) (v6 : Value) (wx : World) : Prop := ∃ v d t cs, Both w wx g v d t cs q d v6 (rowsL d t cs) ∧ Fit j d t cs
theorem mask_rng (b : Nat → Bool) (k : Nat) (h : k ≤ 4) : 0 ≤ maskB b k ∧ maskB b k ≤ 15 := by
  have : k = 0 ∨ k = 1 ∨ k = 2 ∨ k = 3 ∨ k = 4 := by omega
  rcases this with rfl | rfl | rfl | rfl | rfl <;> simp only [maskB] <;> cases b 0 <;> cases b 1 <;> cases b 2 <;> cases b 3 <;> decide
theorem pow_rng (k : Nat) (h : k ≤ 4) : 1 ≤ (2 : Int) ^ k ∧ (2 : Int) ^ k ≤ 16 := by
  have : k = 0 ∨ k = 1 ∨ k = 2 ∨ k = 3 ∨ k = 4 := by omega
  rcases this with rfl | rfl | rfl | rfl | rfl <;> decide
set_option maxHeartbeats 16000000 in
set_option maxRecDepth 100000 in
theorem law_gracePlays (A : Option Addr) (n c : Nat) (ps : List Pl) (w : World) (h : RPl w w.heap.size A n ps) (hn : n ≤ 5864062014634) :
    Calls Try.prog 10 #[.slice A n c] w fun e w' => e = .returned (.bool true) ∧ Below w.heap.size w w' := by
  obtain ⟨i0, hi, hz0, hz1, hz2⟩ := info_parts Try.infoInt
  go_enter Try.func10, Try.ntmps10
  go_wp2_with fail
  refine (newGrace_any _).mono ?_
  rintro e w0 ⟨rfl, rfl⟩
  have h0 := new_st w w.heap.size (Nat.le_refl _)
  have hb0 : Below w.heap.size w (w.alloc (.cells (gcells (fun _ => 0) (fun _ => 0) (.slice none 0 0)) 130)) := (Below.refl _ _).alloc (Nat.le_refl _) _
  generalize w.alloc (.cells (gcells (fun _ => 0) (fun _ => 0) (.slice none 0 0)) 130) = w0 at *
  go_wp2_with fail
  refine (leave_none0 w.heap.size _ w.heap.size h0).mono ?_
  rintro e w1 ⟨rfl, rfl⟩
  go_wp2_with fail
  refine (enter_any0 w.heap.size _ w.heap.size h0).mono ?_
  rintro e w1 ⟨rfl, h1, hf1⟩
  have h1' : GrSt w1 w.heap.size w.heap.size d1 d1 (.slice none 0 0) [] := h1
  have hb1 : Below w.heap.size w w1 := hb0.trans (hf1.below hb0.size h0.lowF)
  clear h1 hf1 h0 hb0
  go_wp2_with fail
  refine (call_any w.heap.size d1 d1 _ [] 5 _ w.heap.size h1' hb1.size (by simp) rfl).mono ?_
  rintro e w2 ⟨rfl, v2, h2, hf2, hF2⟩
  have h2' : GrSt w2 w.heap.size w.heap.size d1 d1 v2 [newC 5 d1 d1] := h2
  have hb2 : Below w.heap.size w w2 := hb1.trans (hf2.below hb1.size h1'.lowF)
  clear h2 hf2 hF2 h1' hb1
  go_wp2_with fail
  refine (run_any w.heap.size d1 d1 v2 _ _ w.heap.size h2' hb2.size (by simp)).mono ?_
  rintro e w3 ⟨A3, c3, rfl, -, v3, h3, hf3, hF3⟩
  have hb3 : Below w.heap.size w w3 := hb2.trans (hf3.below hb2.size h2'.lowF)
  rw [ovs_first]
  clear h3 hf3 hF3 h2' hb2
  go_wp2_with fail
  refine (newGrace_any _).mono ?_
  rintro e w4 ⟨rfl, rfl⟩
  have hI0 := Both.start hb3
  go_wp2_with fail
  have hF0 := Fit.start
  have hC0 : CutRel w 0 w3.heap.size (w3.heap.size + 1) (.slice none 0 0) _ := ⟨_, _, _, _, hI0, hF0⟩
  clear hI0 hF0 hb3
  generalize w3.heap.size + 1 = q at *
  generalize w3.heap.size = g at *
  go_loopw [6, 54] (fun v6 i wr => ∃ k : Nat, k ≤ n ∧ i = .int .i64 k ∧ CutRel w k g q v6 wr) (fun _ i _ => n - (intOf i).toNat)
  case atStart => exact ⟨0, by omega, rfl, hC0⟩
  case round =>
    clear hC0
    obtain ⟨k, hk, rfl, v, d, t, cs, hI, hF⟩ := hrel
    have hlw : (rowsL d t cs).length = cs.length := by simp [rowsL]
    obtain ⟨A6, c6, hv6, hc61, hc62⟩ := hI.lw.row.shape
    rw [hlw] at hv6 hc61
    have HLW := Lib.hid hlw
    clear hlw
    subst hv6
    by_cases hlt : k < n
    · obtain ⟨b, o, rfl, hbB, hcell, hfine⟩ := (h.below' hI.low (Nat.le_refl _)).at_ hlt
      generalize ps.getD k .zero = p at *
      obtain ⟨Ap, np, cp, xs⟩ := p
      obtain ⟨hri, hnp⟩ := hfine
      dsimp only at hcell hri hnp
      have hkn : (k : Int) < n := by omega
      have hbw : b < wr.heap.size := by have := hI.low.size; omega
      have hx1 := i64_range (RI.rng hri 1 (by decide))
      go_wp2_with fail
      refine (at_any Ap np cp xs 1 _ _ (RD.of_ri hri) hnp (by omega)).mono ?_
      rintro e w4 ⟨rfl, rfl⟩
      generalize xs.getD 1 0 = x at *
      have hI' := hI.alloc (.cells #[.int .i64 x] 3)
      have hxb := (Blk.new wr #[.int .i64 x] 3)
      have hri' := hri.below' ((Below.refl wr.heap.size wr).alloc (Nat.le_refl _) (.cells #[.int .i64 x] 3)) hI.low.size
      have hx0 := hxb.cell 0
      rw [show (#[Value.int .i64 x] : Array Value)[0]? = some (.int .i64 x) from rfl] at hx0
      have hxl := hxb.lt
      go_upto_region 11 with fail
      go_cut [10] (fun s10 wx => s10 = .bool (cpuB x) ∧ wx = wr.alloc (.cells #[.int .i64 x] 3))
      case first =>
        by_cases h1 : 0 ≤ x
        · by_cases h2 : x < 4
          · have hc : cpuB x = true := by simp [cpuB, h1, h2]
            have HC := Lib.hid hc
            clear hc
            go_wp2
            go_meet
            exact ⟨by rw [HC.out], rfl⟩
          · have hc : cpuB x = false := by simp [cpuB, h2]
            have HC := Lib.hid hc
            clear hc
            go_wp2
            go_meet
            exact ⟨by rw [HC.out], rfl⟩
        · have hc : cpuB x = false := by simp [cpuB, h1]
          have HC := Lib.hid hc
          clear hc
          go_wp2
          go_meet
          exact ⟨by rw [HC.out], rfl⟩
      case rest =>
        obtain ⟨rfl, rfl⟩ := hcut
        go_wp2_with fail
        refine (at_any Ap np cp xs 0 _ _ (RD.of_ri hri') hnp (by omega)).mono ?_
        rintro e w4 ⟨rfl, rfl⟩
        generalize xs.getD 0 0 = y at *
        have hql := hI.lw.blk.lt
        have hqn : ¬ wr.heap.size = q := by omega
        have hqn' : ¬ q = wr.heap.size := by omega
        go_upto_block 2 with fail
        go_cut [6, 10] (fun s6 s10 wx => CutRel w (k + 1) g q s6 wx)
        case first =>
          by_cases hy1 : y = 1
          · as_aux_lemma =>
              have e1 : (y == 1) = true := by simpa using hy1
              clear hy1
              by_cases hcpu : 0 ≤ x ∧ x < 4
              · have hc : cpuB x = true := by simp [cpuB, hcpu.1, hcpu.2]
                obtain ⟨i, rfl⟩ : ∃ i : Nat, x = i := ⟨x.toNat, by omega⟩
                have hi4 : i < 4 := by omega
                have hi4' : (i : Int) < 4 := hcpu.2
                have q0 := hI'.lw.blk.cell i
                rw [dcells_at d hi4] at q0
                have q1 := hI'.lw.blk.free i
                have q2 := hI'.lw.blk.lt
                have hrg := hF.rng i hi4
                by_cases h8 : d i = 8
                · have HE := Lib.hid (enter_full g d t v cs _ w.heap.size hI'.ob i hi4 h8)
                  rw [h8] at q0
                  clear h8 hrg
                  have HI := Lib.hid hI'
                  go_wp2_with fail
                  refine HE.out.mono ?_
                  rintro e w9 ⟨rfl, rfl⟩
                  go_wp2
                  go_meet
                  exact ⟨v, d, t, cs, HI.out, hF.more⟩
                · have hI2 := (hI.setd hi4 (d i + 1)).alloc (.cells #[.int .i64 (i : Int)] 3)
                  have HE := Lib.hid (enter_any g d t v cs _ w.heap.size hI2.ob i hi4 (by omega) (by omega))
                  have HF2 := Lib.hid (hF.enter hi4 (by omega))
                  have HR := Lib.hid (rows_enter hF hi4)
                  have HI2 := Lib.hid hI2
                  have hd8 : (d i == 8) = false := by simpa using h8
                  generalize hdi : d i = z at q0 hd8 hrg h8 HE HI2
                  have HD := Lib.hid hdi
                  clear hI2 hdi h8
                  go_wp2_with fail
                  refine HE.out.mono ?_
                  rintro e w9 ⟨rfl, hS9, hf9⟩
                  obtain ⟨v', hI3⟩ := HI2.out.obj ⟨v, hS9, hf9, fun k hk => .inl hk⟩
                  rw [HD.out] at HF2 HR
                  have HI3 := Lib.hid (hI3.rows (ls' := rowsL (upd d i (z + 1)) (entT d t i) cs) (by simp [rowsL]) HR.out)
                  clear hS9 hf9 hI3
                  go_wp2
                  go_meet
                  exact ⟨v', upd d i (z + 1), entT d t i, cs, by have := HI3.out; unfold entT at *; rw [HD.out] at *; exact this, HF2.out⟩
              · have hc : cpuB x = false := by simp [cpuB]; omega
                have HE := Lib.hid (enter_bad g x (wr.alloc (.cells #[.int .i64 x] 3)) (by omega))
                clear hcpu
                go_wp2_with fail
                refine HE.out.mono ?_
                rintro e w9 ⟨rfl, rfl⟩
                go_wp2
                go_meet
                exact ⟨v, d, t, cs, hI', hF.more⟩
          by_cases hy2 : y = 2
          · as_aux_lemma =>
              have e1 : (y == 1) = false := by simp; omega
              have e2 : (y == 2) = true := by simpa using hy2
              clear hy1 hy2
              by_cases hcpu : 0 ≤ x ∧ x < 4
              · have hc : cpuB x = true := by simp [cpuB, hcpu.1, hcpu.2]
                obtain ⟨i, rfl⟩ : ∃ i : Nat, x = i := ⟨x.toNat, by omega⟩
                have hi4 : i < 4 := by omega
                have hi4' : (i : Int) < 4 := hcpu.2
                have q0 := hI'.lw.blk.cell i
                rw [dcells_at d hi4] at q0
                have q0w := hI.lw.blk.cell i
                rw [dcells_at d hi4] at q0w
                have q1 := hI'.lw.blk.free i
                have q2 := hI'.lw.blk.lt
                have hrg := hF.rng i hi4
                by_cases h8 : d i = 0
                · have HE := Lib.hid (leave_none g d t v cs _ w.heap.size hI'.ob i hi4 h8)
                  rw [h8] at q0 q0w
                  clear h8 hrg
                  have HI := Lib.hid hI'
                  go_wp2_with fail
                  refine HE.out.mono ?_
                  rintro e w9 ⟨rfl, rfl⟩
                  go_wp2
                  go_meet
                  exact ⟨v, d, t, cs, HI.out, hF.more⟩
                · have hI2 := (hI.setd hi4 (d i - 1)).alloc (.cells #[.int .i64 (i : Int)] 3)
                  have HF2 := Lib.hid (hF.leave hi4 (by omega))
                  have HR := Lib.hid (fun hh => rows_leave hF hi4 hh)
                  have HRL := Lib.hid (fun hh => rows_last hF hi4 hh)
                  have HLV := Lib.hid (fun W v hh => leave_any g d t v cs W w.heap.size hh i hi4 (by omega))
                  have HI2 := Lib.hid hI2
                  have hd8 : (d i == 0) = false := by simpa using h8
                  unfold LvGo at HLV
                  generalize hdi : d i = z at q0 q0w hd8 hrg h8 HI2 HF2 HR HRL HLV
                  have HD := Lib.hid hdi
                  clear hI2 hdi
                  by_cases hz : z = 1
                  · subst hz
                    have hd0 : d i - 1 = 0 := by rw [HD.out]; rfl
                    simp only [show (1 : Int) - 1 = 0 from rfl] at HI2 HF2 HRL HLV
                    have HI2' := HI2.out.rows (ls' := clrs i 0 (rowsL d t cs)) (by simp [clrs]) (by simp [clrs])
                    have hl0 := HLW.out
                    have HRL2 := Lib.hid (HRL.out trivial)
                    have hlen := hF.len
                    have hbx : ((wr.setCell ⟨q, i, none⟩ (.int .i64 0)).alloc (.cells #[.int .i64 (i : Int)] 3)).cell? ⟨wr.heap.size, 0, none⟩ = some (.int .i64 i) := by
                      have h1 := (Blk.new (wr.setCell ⟨q, i, none⟩ (.int .i64 0)) #[.int .i64 (i : Int)] 3).cell 0
                      simpa using h1
                    have hown := hI.lw.row.lt
                    clear h8 HR HRL HI2
                    obtain ⟨W, hW⟩ : ∃ W, W = wr := ⟨_, rfl⟩
                    subst hW
                    have HL0 := Lib.hid hl0
                    clear hl0
                    go_wp2_with fail
                    go_loopw [101] (fun i5 wr => ∃ m : Nat, m ≤ cs.length ∧ i5 = .int .i64 m ∧ Both w wr g v d t cs q (upd d i 0) (.slice A6 cs.length c6) (clrs i m (rowsL d t cs)) ∧ wr.cell? ⟨W.heap.size, 0, none⟩ = some (.int .i64 i)) (fun i5 _ => cs.length - (intOf i5).toNat)
                    case atStart => exact ⟨0, by omega, rfl, HI2', hbx⟩
                    case round =>
                      obtain ⟨m, hm, rfl, hB, hx9⟩ := hrel
                      clear HI2' hbx
                      by_cases hml : m < cs.length
                      · have hrow := hB.lw.row
                        rw [clrs_len i m _ (by rw [HL0.out]; omega), HL0.out] at hrow
                        obtain ⟨b6, o6, e6, _, _⟩ := hrow.reads.2 (by omega)
                        subst e6
                        obtain ⟨⟨u6, s1⟩, s2, s3, _⟩ := row_spot (j := m * 5 + 1 + i) hrow (by omega)
                        have hbb := (hown b6 rfl).2
                        rw [show o6 + (m * 5 + 1 + i) = o6 + m * 5 + 1 + i by omega] at s1 s2
                        have HWP := Lib.hid ((hB.grow ((Below.refl wr.heap.size wr).drew)).wipe HL0.out hml hi4)
                        have hx8 := Lib.hid ((((Fr.refl (fun k => k = b6) wr).drew).setCell (p := ⟨b6, o6 + m * 5 + 1 + i, none⟩) (fun _ => rfl) (.bool false)).cell (p := ⟨W.heap.size, 0, none⟩) (lt_cell hx9) (by show ¬ W.heap.size = b6; omega))
                        have HX9 := Lib.hid hx9
                        clear hB hrow
                        go_wp2
                        go_region
                        go_wp2
                        go_roundw
                        case rel => exact ⟨m + 1, by omega, by go_num, HWP.out, hx8.out.trans HX9.out⟩
                        case measure => simp [intOf]; omega
                      · obtain rfl : m = cs.length := by omega
                        have HE := Lib.hid (HLV.out _ _ hB.ob)
                        have hB2 := Lib.hid (hB.rows (ls' := rowsL (upd d i 0) t cs) (by rw [clrs_len i _ _ (by rw [HL0.out]; omega)]; simp [rowsL]) (by rw [← HL0.out, clrs_all]; exact HRL2.out))
                        have hxl9 := lt_cell hx9
                        clear HLV hB
                        go_wp2_with fail
                        refine HE.out.mono ?_
                        rintro e w9 ⟨rfl, hS9, hf9⟩
                        obtain ⟨v', hI3⟩ := hB2.out.obj ⟨v, hS9, hf9, fun k hk => .inl hk⟩
                        have HI3 := Lib.hid hI3
                        clear hS9 hf9 hI3
                        go_wp2
                        go_meet
                        exact ⟨v', upd d i 0, t, cs, HI3.out, HF2.out⟩
                  · have hz1 : (z - 1 == 0) = false := by simp; omega
                    have HE := Lib.hid (HLV.out _ _ HI2.out.ob)
                    have HR2 := Lib.hid (HR.out (by omega))
                    clear h8 hz HR HRL HLV
                    go_wp2_with fail
                    refine HE.out.mono ?_
                    rintro e w9 ⟨rfl, hS9, hf9⟩
                    obtain ⟨v', hI3⟩ := HI2.out.obj ⟨v, hS9, hf9, fun k hk => .inl hk⟩
                    have HI3 := Lib.hid (hI3.rows (ls' := rowsL (upd d i (z - 1)) t cs) (by simp [rowsL]) HR2.out)
                    clear hS9 hf9 hI3
                    go_wp2
                    go_meet
                    exact ⟨v', upd d i (z - 1), t, cs, HI3.out, HF2.out⟩
              · have hc : cpuB x = false := by simp [cpuB]; omega
                have HE := Lib.hid (leave_bad g x (wr.alloc (.cells #[.int .i64 x] 3)) (by omega))
                clear hcpu
                go_wp2_with fail
                refine HE.out.mono ?_
                rintro e w9 ⟨rfl, rfl⟩
                go_wp2
                go_meet
                exact ⟨v, d, t, cs, hI', hF.more⟩
          by_cases hy3 : y = 3
          · have e1 : (y == 1) = false := by simp; omega
            have e2 : (y == 2) = false := by simp; omega
            have e3 : (y == 3) = true := by simpa using hy3
            clear hy1 hy2 hy3
            have hmf : ∀ fn first cap w, (Instr.makeFunc fn first cap).run Try.prog w = .ok (.func fn first cap) w := fun _ _ _ _ => rfl
            have hl0 := HLW.out
            have hlen := hF.len
            have hHR := has_rows d t cs x
            have hRS : RS LC.cells 5 (wr.alloc (.cells #[.int .i64 x] 3)) (wr.alloc (.cells #[.int .i64 x] 3)).heap.size A6 cs.length (rowsL d t cs) := ⟨by have := hI'.lw.row; rw [hl0] at this; exact this.reads, hl0⟩
            have HX0 := Lib.hid hx0
            obtain ⟨W, hW⟩ : ∃ W, W = wr := ⟨_, rfl⟩
            subst hW
            cases hq : GC.has cs x with
            | true =>
              rw [hq] at hHR
              have HS := Lib.hid (fun W hS => call_there g d t v cs x W w.heap.size hS hlen hq)
              have HH := Lib.hid hHR
              clear hq hHR
              go_wp2_with fail
              refine (has61 x W.heap.size A6 cs.length c6 _ _ _ hRS (Nat.le_refl _) (by omega) HX0.out HH.out).mono ?_
              rintro e w5 ⟨rfl, hb5⟩
              have hI5 := hI'.grow hb5
              have hx5 := (hb5.cell (p := ⟨W.heap.size, 0, none⟩) hxl).trans HX0.out
              have hl5 := lt_cell hx5
              have HE := Lib.hid (HS.out _ hI5.ob)
              clear hx0 hRS
              go_wp2_with fail
              refine HE.out.mono ?_
              rintro e w9 ⟨rfl, hb9⟩
              have HI9 := Lib.hid (hI5.grow hb9)
              clear hb9 hb5
              go_wp2
              go_meet
              exact ⟨v, d, t, cs, HI9.out, hF.more⟩
            | false =>
              rw [hq] at hHR
              have HH := Lib.hid hHR
              by_cases h256 : cs.length = 256
              · have HS := Lib.hid (fun W hS => call_full g d t v cs x W w.heap.size hS h256 hq)
                have q256 : ((cs.length : Int) == 256) = true := by simp; omega
                clear hq hHR h256
                go_wp2_with fail
                refine (has61 x W.heap.size A6 cs.length c6 _ _ _ hRS (Nat.le_refl _) (by omega) HX0.out HH.out).mono ?_
                rintro e w5 ⟨rfl, hb5⟩
                have hI5 := hI'.grow hb5
                have hx5 := (hb5.cell (p := ⟨W.heap.size, 0, none⟩) hxl).trans HX0.out
                have hl5 := lt_cell hx5
                have HE := Lib.hid (HS.out _ hI5.ob)
                clear hx0 hRS
                go_wp2_with fail
                refine HE.out.mono ?_
                rintro e w9 ⟨rfl, hb9⟩
                have HI9 := Lib.hid (hI5.grow hb9)
                clear hb9 hb5
                go_wp2
                go_meet
                exact ⟨v, d, t, cs, HI9.out, hF.more⟩
              · have HS := Lib.hid (fun W v hS hB => call_any g d t v cs x W w.heap.size hS hB (by omega) hq)
                have q256 : ((cs.length : Int) == 256) = false := by simp; omega
                have HF2 := Lib.hid (hF.call x (by omega))
                have HR := Lib.hid (rows_call hF x)
                clear hq hHR h256
                go_wp2_with fail
                refine (has61 x W.heap.size A6 cs.length c6 _ _ _ hRS (Nat.le_refl _) (by omega) HX0.out HH.out).mono ?_
                rintro e w5 ⟨rfl, hb5⟩
                have hI5 := hI'.grow hb5
                have hx5 := (hb5.cell (p := ⟨W.heap.size, 0, none⟩) hxl).trans HX0.out
                have hl5 := lt_cell hx5
                have hql5 := hI5.lw.blk.lt
                have hst0 : Blk (w5.alloc (.cells (lcells x (nl d 0)) 106)) w5.heap.size (lcells x (nl d 0)) 106 := Blk.new _ _ _
                have hb0 : Below w5.heap.size w5 (w5.alloc (.cells (lcells x (nl d 0)) 106)) := (Below.refl _ _).alloc (Nat.le_refl _) _
                clear hx0 hRS hb5
                obtain ⟨i6, hi6, hy0, hy1, hy2⟩ := info_parts Try.info106
                go_wp2_with fail
                go_loopw [128] (fun i5 wr => ∃ k : Nat, k ≤ 4 ∧ i5 = .int .i64 k ∧ Blk wr w5.heap.size (lcells x (nl d k)) 106 ∧ Below w5.heap.size w5 wr) (fun i5 _ => 4 - (intOf i5).toNat)
                case atStart => exact ⟨0, by omega, rfl, hst0, hb0⟩
                case round =>
                  obtain ⟨m, hm, rfl, hbk, hbl⟩ := hrel
                  clear hst0 hb0
                  have hI6 := hI5.grow hbl
                  by_cases hm4 : m < 4
                  · have d0 := hI6.lw.blk.cell m
                    rw [dcells_at d hm4] at d0
                    have b1 := hbk.cell (1 + m)
                    rw [lcells_at x _ hm4] at b1
                    have b2 := hbk.free (1 + m)
                    have b3 := hbk.lt
                    have hm4' : (m : Int) < 4 := by omega
                    have hw := hbk.set (1 + m) (.bool (decide (0 < d m)))
                    rw [lcells_set x _ hm4, nl_next] at hw
                    have HW := Lib.hid hw
                    have HN := Lib.hid hbl
                    clear hw hbl
                    generalize d m = z at *
                    go_wp2
                    go_roundw
                    case rel => exact ⟨m + 1, by omega, by go_num, HW.out, HN.out.setCell (Nat.le_refl _) _⟩
                    case measure => simp [intOf]; omega
                  · obtain rfl : m = 4 := by omega
                    have b0 := hbk.cell 0
                    have b1 := hbk.cell 1
                    have b2 := hbk.cell 2
                    have b3 := hbk.cell 3
                    have b4 := hbk.cell 4
                    rw [show (lcells x (nl d 4))[0]? = some (.int .i64 x) from rfl] at b0
                    rw [show (lcells x (nl d 4))[1]? = some (.bool (nl d 4 0)) from rfl] at b1
                    rw [show (lcells x (nl d 4))[2]? = some (.bool (nl d 4 1)) from rfl] at b2
                    rw [show (lcells x (nl d 4))[3]? = some (.bool (nl d 4 2)) from rfl] at b3
                    rw [show (lcells x (nl d 4))[4]? = some (.bool (nl d 4 3)) from rfl] at b4
                    have HNL := Lib.hid (newL_cells x d)
                    have hwz := hI6.low.size
                    have hrow := hI6.lw.row
                    rw [hl0] at hrow
                    have HX6 := Lib.hid ((hbl.cell (p := ⟨W.heap.size, 0, none⟩) hl5).trans hx5)
                    have HOWN := Lib.hid hI.lw.row.lt
                    have hll : W.heap.size < wr.heap.size := Nat.lt_of_lt_of_le hl5 hbl.size
                    generalize nl d 4 0 = n0 at *
                    generalize nl d 4 1 = n1 at *
                    generalize nl d 4 2 = n2 at *
                    generalize nl d 4 3 = n3 at *
                    go_wp2_with (at_builtin; refine wpList_append_row _ rfl (.tmp 139) (.tmp 141) 103 rfl w.heap.size 106 i6 _ 5 16 Try.underlying103 hi6 hy0 hy1 hy2 rfl (by decide) (.slice A6 cs.length c6) cs.length _ rfl (hrow.alloc _) (wr.heap.size + 1) (some ⟨wr.heap.size, 0, none⟩) 1 1 (newL x d).cells rfl (by rw [HNL.out]; exact reads_five wr _ _ _ _ _ 106) (lc_one _) (by unfold maxLen; omega) (by omega) (by simp; omega) ?_)
                    intro A1 c1 w7 hr7 hg7 ho7
                    have hI7 := hI6.app (v7 := .slice A1 (cs.length + 1) c1) (y := newL x d) (by rw [hl0]; exact hr7) hg7 (ho7.imp id (fun e => e.trans (by simp)))
                    have hx7 : w7.cell? ⟨W.heap.size, 0, none⟩ = some (.int .i64 x) := by
                      refine (((Fr.refl (fun k => (Value.slice A6 cs.length c6).ownBlock = some k) wr).alloc _).grown hg7 (fun k e _ => e)).cell (p := ⟨W.heap.size, 0, none⟩) hll (fun e => ?_) |>.trans HX6.out
                      have := (HOWN.out _ e).2
                      exact absurd this (Nat.lt_irrefl _)
                    have hl7 := lt_cell hx7
                    have HE := Lib.hid (HS.out _ _ hI7.ob hI7.low.size)
                    clear hr7 hg7 ho7 hI6 hrow
                    go_wp2_with fail
                    refine HE.out.mono ?_
                    rintro e w9 ⟨rfl, hgo9⟩
                    obtain ⟨v', hI9⟩ := hI7.obj hgo9
                    have HI9 := Lib.hid (hI9.rows (ls' := rowsL d t (cs ++ [newC x d t])) (by simp [rowsL]) HR.out)
                    clear hI9 hgo9 hI7
                    go_wp2
                    go_meet
                    exact ⟨v', d, t, cs ++ [newC x d t], HI9.out, HF2.out⟩
          by_cases hy4 : y = 4
          · have e1 : (y == 1) = false := by simp; omega
            have e2 : (y == 2) = false := by simp; omega
            have e3 : (y == 3) = false := by simp; omega
            have e4 : (y == 4) = true := by simpa using hy4
            clear hy1 hy2 hy3 hy4
            have hl0 := HLW.out
            have hlen := hF.len
            have HF2 := Lib.hid hF.run
            obtain ⟨W, hW⟩ : ∃ W, W = wr := ⟨_, rfl⟩
            subst hW
            obtain ⟨i6, hi6, hy0, hy1, hy2⟩ := info_parts Try.info106
            have hI1 := Lib.hid hI'
            have hrow1 := hI'.lw.row
            rw [hl0] at hrow1
            generalize hW1 : W.alloc (.cells #[.int .i64 x] 3) = W1 at *
            clear hW1 hx0 hxb hri hri' hcell hI hI' HLW
            have hrel0 : RunL W1 d t (ovs d t (cs.take 0)) (lft d t (cs.take 0)) (.slice none 0 0) (.slice none 0 0) W1 := ⟨Row.nil _ _ _ _, Row.nil _ _ _ _, fun k hk => by simp [Value.ownBlock] at hk, Below.refl _ _⟩
            go_wp2_with fail
            go_loopw [17, 18, 160] (fun v3 v4 i5 wr => ∃ m : Nat, m ≤ cs.length ∧ i5 = .int .i64 m ∧ RunL W1 d t (ovs d t (cs.take m)) (lft d t (cs.take m)) v3 v4 wr) (fun _ _ i5 _ => cs.length - (intOf i5).toNat)
            case atStart => exact ⟨0, by omega, rfl, hrel0⟩
            case round =>
              obtain ⟨m, hm, rfl, hR⟩ := hrel
              clear hrel0
              obtain ⟨A3', c3', hv3, hc3, hd3⟩ := hR.out.shape
              obtain ⟨A4, c4, hv4, hc4, hd4⟩ := hR.lft.shape
              have hlr : (rowsL d t (lft d t (cs.take m))).length = (lft d t (cs.take m)).length := by simp [rowsL]
              subst hv3
              subst hv4
              have hl3 : (ovs d t (cs.take m)).length ≤ cs.length := filt_len _ cs m
              have hl4 : (lft d t (cs.take m)).length ≤ cs.length := filt_len _ cs m
              by_cases hml : m < cs.length
              · obtain ⟨b6, o6, hA, hb6, hcl⟩ := LC.at_ (cs := rowsL d t cs) (i := m) (w := wr) (B := wr.heap.size) (A := A6) (n := cs.length) ⟨(hrow1.grow hR.low).reads, hl0⟩ hml
                subst hA
                rw [rowsL_at hml] at hcl
                have f0 := hcl 0 _ rfl
                have f1 := hcl 1 _ rfl
                have f2 := hcl 2 _ rfl
                have f3 := hcl 3 _ rfl
                have f4 := hcl 4 _ rfl
                rw [Nat.add_zero] at f0
                clear hcl
                have hTo := Lib.hid (ovs_take d t cs m hml)
                have hTl := Lib.hid (lft_take d t cs m hml)
                have hmlt : (m : Int) < cs.length := by omega
                generalize cs.getD m .zero = y9 at *
                generalize ovs d t (cs.take m) = os at *
                generalize lft d t (cs.take m) = ls at *
                have hid : (toL d t y9).id = y9.id := rfl
                rw [hid] at f0
                clear hid
                have hE := fun W => run_eq104 ((toL d t y9).b 0) ((toL d t y9).b 1) ((toL d t y9).b 2) ((toL d t y9).b 3) W
                have hov0 : (!((toL d t y9).b 0 || (toL d t y9).b 1 || (toL d t y9).b 2 || (toL d t y9).b 3)) = overB d t y9 := rfl
                rw [hov0] at hE
                clear hov0
                have HC := Lib.hid (show (toL d t y9).cells = [.int .i64 y9.id, .bool ((toL d t y9).b 0), .bool ((toL d t y9).b 1), .bool ((toL d t y9).b 2), .bool ((toL d t y9).b 3)] from rfl)
                generalize (toL d t y9).b 0 = n0 at *
                generalize (toL d t y9).b 1 = n1 at *
                generalize (toL d t y9).b 2 = n2 at *
                generalize (toL d t y9).b 3 = n3 at *
                have hR2 := hR.grow ((Below.refl wr.heap.size wr).alloc (Nat.le_refl _) (.cells #[.int .i64 y9.id, .bool n0, .bool n1, .bool n2, .bool n3] 106))
                have hzW := hR.low.size
                cases hov : overB d t y9 with
                | true =>
                  rw [hov] at hE
                  have HOV := Lib.hid hov
                  rw [hov, if_pos rfl] at hTo hTl
                  clear hov
                  go_wp2_with (at_builtin; refine wpList_append_row _ rfl (.tmp 168) (.tmp 171) 30 rfl W1.heap.size 3 i0 (.int .i64 0) 1 8 Try.underlying30 hi hz0 hz1 hz2 rfl (by decide) (.slice A3' os.length c3') os.length _ rfl (hR2.out.alloc _) (wr.heap.size + 2) (some ⟨wr.heap.size + 1, 0, none⟩) 1 1 [.int .i64 y9.id] rfl (gr_reads_two wr _ _ 3) (by simp [Value.oneCell']) (by unfold maxLen; omega) (by omega) (by simp; omega) ?_)
                  intro A1 c1 w7 hr7 hg7 ho7
                  have hR3 := hR2.addOut hr7 hg7 (ho7.imp id (fun e => e.trans (by simp)))
                  have HR3 := Lib.hid hR3
                  clear hR3 hr7 hg7 ho7 hR2
                  go_wp2
                  go_roundw
                  case rel => exact ⟨m + 1, by omega, by go_num, by rw [hTo.out, hTl.out, List.append_nil]; exact HR3.out⟩
                  case measure => simp [intOf]; omega
                | false =>
                  rw [hov] at hE
                  have HOV := Lib.hid hov
                  rw [hov] at hTo hTl
                  simp only [Bool.false_eq_true, if_false] at hTo hTl
                  clear hov
                  have hrl := hR2.lft
                  go_wp2_with (at_builtin; refine wpList_append_row _ rfl (.tmp 173) (.tmp 175) 103 rfl W1.heap.size 106 i6 _ 5 16 Try.underlying103 hi6 hy0 hy1 hy2 rfl (by decide) (.slice A4 ls.length c4) ls.length _ rfl (hrl.alloc _) (wr.heap.size + 2) (some ⟨wr.heap.size + 1, 0, none⟩) 1 1 (toL d t y9).cells rfl (by rw [HC.out]; exact gr_reads_six wr _ _ _ _ _ _ 106) (lc_one _) (by unfold maxLen; omega) (by omega) (by simp; omega) ?_)
                  intro A1 c1 w7 hr7 hg7 ho7
                  have hR3 := hR2.addLft hr7 hg7 (ho7.imp id (fun e => e.trans (by simp)))
                  have HR3 := Lib.hid hR3
                  clear hR3 hr7 hg7 ho7 hR2 hrl
                  go_wp2
                  go_roundw
                  case rel => exact ⟨m + 1, by omega, by go_num, by rw [hTo.out, hTl.out, List.append_nil]; exact HR3.out⟩
                  case measure => simp [intOf]; omega
              · obtain rfl : m = cs.length := by omega
                have hB := hI1.out.grow hR.low
                have E1 := Lib.hid (show ovs d t cs = ovs d t (cs.take cs.length) by rw [List.take_length])
                have E2 := Lib.hid (show lft d t cs = lft d t (cs.take cs.length) by rw [List.take_length])
                have hRun := run_any g d t v cs _ w.heap.size hB.ob hB.low.size hlen
                unfold RunPost at hRun
                rw [E1.out, E2.out] at hRun
                rw [E2.out] at HF2
                have HRun := Lib.hid hRun
                clear hRun
                generalize ovs d t (cs.take cs.length) = os at *
                generalize lft d t (cs.take cs.length) = ls at *
                go_wp2_with fail
                refine HRun.out.mono ?_
                rintro e w7 ⟨A7, c7, rfl, hr7, hgo7⟩
                obtain ⟨v', hB7⟩ := hI1.out.ran hR hgo7
                obtain ⟨v'', hg1, hg2, hg3⟩ := hgo7
                have hsep : ∀ k, (Value.slice A3' os.length c3').ownBlock = some k → ¬ GrF g v k := fun k hk hf => by have := (hR.out.lt k hk).1; have := hI1.out.ob.ltF k hf; omega
                have hr3 := hR.out.fr hg2 hsep
                go_wp2_with fail
                refine (equal_any A7 A3' os.length c7 os.length c3' (os.map (·.id)) (os.map (·.id)) _ _ _ (RD.of_row (by rw [List.map_map]; exact hr7)) (RD.of_row (by rw [List.map_map]; exact hr3)) (Nat.le_refl _) (Nat.le_refl _) (by omega) (by omega)).mono ?_
                rintro e w9 ⟨rfl, hb9⟩
                rw [decide_eq_true rfl]
                have HI9 := Lib.hid (hB7.grow hb9)
                clear hb9 hB7 hr3 hr7 hg1 hg2 hg3 hR hB
                go_wp2
                go_meet
                exact ⟨v', d, t, ls, HI9.out, HF2.out⟩
          as_aux_lemma =>
            have e1 : (y == 1) = false := by simp; omega
            have e2 : (y == 2) = false := by simp; omega
            have e3 : (y == 3) = false := by simp; omega
            have e4 : (y == 4) = false := by simp; omega
            go_wp2
            go_meet
            exact ⟨v, d, t, cs, hI', hF.more⟩
        case rest =>
          obtain ⟨v', d', t', cs', hI2, hF2⟩ := hcut
          as_aux_lemma =>
            have hl2 : (rowsL d' t' cs').length = cs'.length := by simp [rowsL]
            obtain ⟨A7, c7, hv7, hc71, hc72⟩ := hI2.lw.row.shape
            rw [hl2] at hv7 hc71
            subst hv7
            go_wp2_with fail
            refine (reads_any g d' t' v' cs' _ w.heap.size hI2.ob).mono ?_
            rintro e w9 ⟨rfl, nq, rfl⟩
            have hI3 := hI2.drewN nq
            have hC3 : CutRel w (k + 1) g q (.slice A7 cs'.length c7) (World.drewN _ nq) := ⟨v', d', t', cs', hI3, hF2⟩
            have e0 := hI3.lw.blk.cell 0
            have e1 := hI3.lw.blk.cell 1
            have e2 := hI3.lw.blk.cell 2
            have e3 := hI3.lw.blk.cell 3
            rw [show (dcells d')[0]? = some (.int .i64 (d' 0)) from rfl] at e0
            rw [show (dcells d')[1]? = some (.int .i64 (d' 1)) from rfl] at e1
            rw [show (dcells d')[2]? = some (.int .i64 (d' 2)) from rfl] at e2
            rw [show (dcells d')[3]? = some (.int .i64 (d' 3)) from rfl] at e3
            have hlen := hF2.len
            clear hI2 hI3 hF2 hF hI hI' hri hri' hcell hxb hx0
            have hmr := mask_rng (fun j => decide (0 < d' j)) 4 (by omega)
            generalize (World.drewN _ nq) = W9 at *
            go_wp2_with fail
            go_loop [23, 24, 190] (fun m p i => ∃ j : Nat, j ≤ 4 ∧ i = .int .i64 j ∧ m = .int .i64 (maskB (fun j => decide (0 < d' j)) j) ∧ p = .int .i64 ((2 : Int) ^ j)) (fun _ _ i => 4 - (intOf i).toNat)
            case atStart => exact ⟨0, by omega, rfl, rfl, rfl⟩
            case round =>
              obtain ⟨j, hj, rfl, rfl, rfl⟩ := hrel
              by_cases hj4 : j < 4
              · have hix := run_index102 W9 d' j hj4
                have hj4' : (j : Int) < 4 := by omega
                have hm0 := mask_rng (fun j => decide (0 < d' j)) j (by omega)
                have hp0 := pow_rng j (by omega)
                have hps := Lib.hid (show (2 : Int) ^ (j + 1) = 2 ^ j * 2 from Int.pow_succ 2 j)
                by_cases h1 : 0 < d' j
                · have hms := Lib.hid (show maskB (fun j => decide (0 < d' j)) (j + 1) = maskB (fun j => decide (0 < d' j)) j + 2 ^ j by simp [maskB, h1])
                  generalize maskB (fun j => decide (0 < d' j)) j = mm at *
                  generalize (2 : Int) ^ j = pp at *
                  generalize d' j = yy at *
                  go_wp2
                  go_round
                  case rel => exact ⟨j + 1, by omega, by go_num, by rw [hms.out], by rw [hps.out]⟩
                  case measure => simp [intOf]; omega
                · have hms := Lib.hid (show maskB (fun j => decide (0 < d' j)) (j + 1) = maskB (fun j => decide (0 < d' j)) j by simp [maskB, h1])
                  generalize maskB (fun j => decide (0 < d' j)) j = mm at *
                  generalize (2 : Int) ^ j = pp at *
                  generalize d' j = yy at *
                  go_wp2
                  go_round
                  case rel => exact ⟨j + 1, by omega, by go_num, by rw [hms.out], by rw [hps.out]⟩
                  case measure => simp [intOf]; omega
              · obtain rfl : j = 4 := by omega
                generalize maskB (fun j => decide (0 < d' j)) 4 = mm at *
                go_wp2
                go_roundw
                case rel => exact ⟨k + 1, by omega, by go_num, hC3⟩
                case measure => simp [intOf]; omega
    · obtain rfl : k = n := by omega
      have hlow := hI.low
      clear hI hF
      go_wp2
      go_ret
      exact ⟨rfl, hlow⟩
end Go.Proofs.Ytjcbnanajelpjaa
