/- Contract of admit.Late. -/
import Derived.Test.YtnfmnocmglggdaaLtB
namespace Go.Proofs.Ytnfmnocmglggdaa
open Go.RowKit
set_option maxHeartbeats 400000
set_option linter.unusedVariables false
set_option linter.unusedSimpArgs false
/-- The cells of a row of m integers. -/
def rowM (m : Nat) (L : Nat → Nat) : Array Value := ((List.range m).map fun i => Value.int .i64 (L i)).toArray
theorem rowM_size (m : Nat) (L : Nat → Nat) : (rowM m L).size = m := by simp [rowM]
theorem rowM_at (m : Nat) (L : Nat → Nat) {i : Nat} (h : i < m) : (rowM m L)[i]? = some (.int .i64 (L i)) := by simp [rowM, h]
theorem rowM_set (m : Nat) (L L' : Nat → Nat) {i : Nat} (h : i < m) (hL : ∀ j, j ≠ i → L' j = L j) : (rowM m L).setIfInBounds i (.int .i64 (L' i)) = rowM m L' := by
  unfold rowM
  rw [List.setIfInBounds_toArray]
  congr 1
  apply List.ext_getElem?
  intro j
  by_cases hj : j = i
  · subst hj
    rw [List.getElem?_set_self (by simpa using h)]
    simp [h]
  · rw [List.getElem?_set_ne (fun e => hj e.symm)]
    by_cases hm : j < m
    · simp [hm, hL j hj]
    · simp [hm]
/-- Block g holds what is left of each. -/
def LRow (w : World) (g m : Nat) (L : Nat → Nat) : Prop := w.heap[g]? = some (.cells (rowM m L) 3 (0, 0))
theorem LRow.grow {w w' : World} {g m : Nat} {L : Nat → Nat} (h : LRow w g m L) (hb : Below w.heap.size w w') : LRow w' g m L := (hb.block g (lt_blk h)).trans h
theorem LRow.alloc {w : World} {g m : Nat} {L : Nat → Nat} (h : LRow w g m L) (o : Obj) : LRow (w.alloc o) g m L := h.grow ((Below.refl _ _).alloc (Nat.le_refl _) o)
theorem LRow.cell {w : World} {g m : Nat} {L : Nat → Nat} (h : LRow w g m L) {i : Nat} (hi : i < m) : w.cell? ⟨g, i, none⟩ = some (.int .i64 (L i)) := by rw [cell_of_row w g i _ 3 (0, 0) h, rowM_at m L hi]
theorem LRow.free {w : World} {g m : Nat} {L : Nat → Nat} (h : LRow w g m L) (i : Nat) : w.frozen? ⟨g, i, none⟩ = false := frozen_of_row w g i _ 3 h
theorem LRow.set {w : World} {g m : Nat} {L L' : Nat → Nat} (h : LRow w g m L) {i : Nat} (hi : i < m) (hL : ∀ j, j ≠ i → L' j = L j) : LRow (w.setCell ⟨g, i, none⟩ (.int .i64 (L' i))) g m L' := by
  have : (w.setCell ⟨g, i, none⟩ (.int .i64 (L' i))).heap[g]? = some (.cells ((rowM m L).setIfInBounds i (.int .i64 (L' i))) 3 (0, 0)) := by
    unfold LRow at h
    simp [World.setCell, Array.getElem?_modify, h]
  unfold LRow
  rw [this, rowM_set m L L' hi hL]
theorem LRow.same {w : World} {g m : Nat} {L L' : Nat → Nat} (h : LRow w g m L) (he : ∀ i, i < m → L' i = L i) : LRow w g m L' := by
  have : rowM m L' = rowM m L := by
    unfold rowM
    congr 1
    exact List.map_congr_left (fun i hi => by rw [he i (by simpa using hi)])
  unfold LRow; rw [this]; exact h
theorem Try.infoI : (Try.prog.info? 3).map (fun i => (i.zero, i.size, i.bytes)) = some (some (.int .i64 0), 1, 8) := by kernel_rfl
/-- What admit.Late answers. -/
def lateErr (us : List Us) (ticks : Int) : Int := if chkU us ≠ 0 then chkU us else if ticks < 0 ∨ 2000 < ticks then 1 else 0
def lateOf (us : List Us) (ticks : Int) : Nat := if lateErr us ticks = 0 then lateF us ticks.toNat else 0
def LatePost (us : List Us) (ticks : Int) (w : World) (e : Ending) (w' : World) : Prop := e = .returned (.tuple #[.int .i64 (lateOf us ticks : Nat), .int .i64 (lateErr us ticks)]) ∧ Below w.heap.size w w'
theorem late_bad {us : List Us} {ticks : Int} {w w' : World} {e : Ending} {x : Int} (h : lateErr us ticks = x) (hx : x ≠ 0) (he : e = .returned (.tuple #[.int .i64 0, .int .i64 x])) (hb : Below w.heap.size w w') : LatePost us ticks w e w' := by
  refine ⟨?_, hb⟩
  have : lateOf us ticks = 0 := by unfold lateOf; rw [if_neg (by rw [h]; exact hx)]
  rw [he, this, h]; rfl
theorem lt_drewN {B : Nat} {w w' : World} (h : Below B w w') (n : Nat) : Below B w (w'.drewN n) := ⟨h.os, h.tape, h.output, h.size, h.block⟩
theorem due_le (us : List Us) (t i : Nat) : due us t i ≤ t + pn us i := by
  unfold due
  rw [Nat.add_mul]
  have := Nat.div_mul_le_self t (pn us i)
  omega
theorem due_wrap {us : List Us} {t i : Nat} (ht : t ≤ 2000) (hp : pn us i ≤ 30) : IntKind.i64.wrap ((((t / pn us i : Nat) : Int) + 1) * ((pn us i : Nat) : Int)) = ((due us t i : Nat) : Int) := by
  have h1 : (((t / pn us i : Nat) : Int) + 1) * ((pn us i : Nat) : Int) = ((due us t i : Nat) : Int) := by unfold due; push_cast; rfl
  have := due_le us t i
  rw [h1]
  exact IntWalk.i64_in _ (by omega)
theorem tdiv_nat (t p : Nat) : (t : Int).tdiv (p : Int) = ((t / p : Nat) : Int) := rfl
def relTo (us : List Us) (t : Nat) (L : Nat → Nat) (k : Nat) : Nat → Nat := fun i => if i < k then relL us t L i else L i
def bz : Option Nat → Int
  | none => -1
  | some b => b
theorem us_parts {us : List Us} (hc : chkU us = 0) {k : Nat} (hk : k < us.length) : us.getD k .zero = ⟨(cn us k : Nat), (pn us k : Nat)⟩ := by
  obtain ⟨_, h2⟩ := chk_ok hc
  have hm : us.getD k .zero ∈ us := by simp [List.getD, List.getElem?_eq_getElem hk]
  have := h2 _ hm
  unfold cn pn
  generalize us.getD k .zero = u at *
  obtain ⟨c, p⟩ := u
  dsimp only at *
  have e1 : ((c.toNat : Nat) : Int) = c := by omega
  have e2 : ((p.toNat : Nat) : Int) = p := by omega
  rw [e1, e2]
set_option maxHeartbeats 4000000 in
set_option maxRecDepth 100000 in
theorem late_any (A : Option Addr) (n c : Nat) (us : List Us) (ticks : Int) (w : World) (B : Nat) (h : RU w B A n us) (hB : B ≤ w.heap.size) (hn : n ≤ 9223372036854775807) :
    Calls Try.prog 4 #[.slice A n c, .int .i64 ticks] w (LatePost us ticks w) := by
  have HL := Lib.hid h.len
  have HK := Lib.hid (chkU_any A n c us w B h hB hn)
  by_cases hc : chkU us = 0
  case neg =>
    have HE : Hid (lateErr us ticks = chkU us) := Lib.hid (by unfold lateErr; rw [if_pos hc])
    have HC := Lib.hid hc
    have d : (chkU us != 0) = true := by simpa using hc
    generalize chkU us = ck at *
    clear hc
    go_enter Try.func4, Try.ntmps4
    go_wp2_with (go_at_call 8; refine HK.out.mono ?_; rintro e w1 ⟨rfl, hb1⟩)
    go_ret2
    exact late_bad HE.out HC.out rfl hb1
  rw [hc] at HK
  have HC := Lib.hid hc
  by_cases ht : ticks < 0 ∨ 2000 < ticks
  · have HE : Hid (lateErr us ticks = 1) := Lib.hid (by unfold lateErr; rw [if_neg (by simpa using hc), if_pos ht])
    clear hc
    rcases Int.lt_or_le ticks 0 with h0 | h0
    · have d : decide (ticks < 0) = true := by simpa using h0
      clear h0 ht
      go_enter Try.func4, Try.ntmps4
      go_wp2_with (go_at_call 8; refine HK.out.mono ?_; rintro e w1 ⟨rfl, hb1⟩)
      go_ret2
      exact late_bad HE.out (by decide) rfl hb1
    · have d : decide (ticks < 0) = false := by simpa using h0
      have d2 : decide (2000 < ticks) = true := by simp; omega
      clear h0 ht
      go_enter Try.func4, Try.ntmps4
      go_wp2_with (go_at_call 8; refine HK.out.mono ?_; rintro e w1 ⟨rfl, hb1⟩)
      go_ret2
      exact late_bad HE.out (by decide) rfl hb1
  have HE : Hid (lateErr us ticks = 0) := Lib.hid (by unfold lateErr; rw [if_neg (by simpa using hc), if_neg ht])
  obtain ⟨T, hT⟩ : ∃ T : Nat, ticks = (T : Int) := ⟨ticks.toNat, by omega⟩
  subst hT
  have hT2 : T ≤ 2000 := by omega
  have hTz : (T : Int) ≤ 2000 := by omega
  have hTn : ¬ (2000 : Int) < (T : Int) := by omega
  have hn16 : n ≤ 16 := by rw [← HL.out]; exact (chk_ok hc).1
  clear hc ht
  have hmk : ∀ w : World, (Instr.makeSlice 34 (.int .i64 (n : Int)) (.int .i64 (n : Int))).run Try.prog w = .ok (.slice (some ⟨w.heap.size, 0, none⟩) n n) (w.alloc (.cells (rowM n (fun _ => 0)) 3)) := by
    intro w
    obtain ⟨i0, hi, hz0, hz1, hz2⟩ := info_parts Try.infoI
    have := run_makeSlice (P := Try.prog) w 34 3 i0 (.int .i64 0) Try.underlying34 hi hz0 .i64 .i64 (n : Int) (n : Int) (by omega) (Int.le_refl _) (by rw [hz1]; omega) (by rw [hz2]; omega) (by omega)
    rw [this]
    have e : madeCells (Value.int IntKind.i64 0).cells (n * 1) = rowM n (fun _ => 0) := by
      rw [Nat.mul_one]
      apply Array.ext'
      simp [madeCells, rowM, Value.cells, Nat.mod_one]
    simp only [Int.toNat_natCast, hz1, e]
  go_enter Try.func4, Try.ntmps4
  go_wp2_with (go_at_call 8; refine HK.out.mono ?_; rintro e w1 ⟨rfl, hb1⟩)
  have hz1 := hb1.size
  have hb2 := hb1.alloc hz1 (.cells (rowM n (fun _ => 0)) 3)
  have hr2 : LRow (w1.alloc (.cells (rowM n (fun _ => 0)) 3)) w1.heap.size n (fun _ => 0) := heap_alloc_new w1 _
  obtain ⟨g, hg⟩ : ∃ g, g = w1.heap.size := ⟨_, rfl⟩
  obtain ⟨W, hW⟩ : ∃ W, W = w1.alloc (.cells (rowM n (fun _ => 0)) 3) := ⟨_, rfl⟩
  have hgw : w.heap.size ≤ g := by omega
  rw [← hW] at hb2 hr2 ⊢
  rw [← hg] at hr2 ⊢
  clear hg hW hb1 hz1
  go_wp2
  go_loopw [8, 31] (fun v i wr => ∃ t : Nat, t ≤ T + 1 ∧ i = .int .i64 t ∧ v = .int .i64 ((runL us t).late : Nat) ∧ Hid (LRow wr g n (runL us t).L) ∧ Hid (Below w.heap.size w wr)) (fun _ i _ => T + 1 - (intOf i).toNat)
  case atStart => exact ⟨0, by omega, rfl, rfl, Lib.hid hr2, Lib.hid hb2⟩
  case round =>
    clear hr2 hb2
    obtain ⟨t, ht, rfl, rfl, HR, HB⟩ := hrel
    have hll := run_late us t
    have hlb : (runL us t).late ≤ 2001 * 16 := Nat.le_trans hll (Nat.mul_le_mul (by omega) (by rw [HL.out]; exact hn16))
    clear hll
    by_cases hlt : t < T + 1
    · have htz : (t : Int) < (T : Int) + 1 := by omega
      have HRD := Lib.hid (show runL us (t + 1) = round us t (runL us t) from rfl)
      have HLB := Lib.hid (run_left HC.out t)
      generalize runL us t = st at *
      obtain ⟨L, lt⟩ := st
      dsimp only at hlb HR HRD HLB ⊢
      go_wp2
      go_loopw [8, 36] (fun v i wr => ∃ k : Nat, k ≤ n ∧ i = .int .i64 k ∧ v = .int .i64 ((lt + lateK us t L k : Nat) : Int) ∧ Hid (LRow wr g n (relTo us t L k)) ∧ Hid (Below w.heap.size w wr)) (fun _ i _ => n - (intOf i).toNat)
      case atStart => exact ⟨0, by omega, rfl, by simp [lateK], Lib.hid (HR.out.same (fun i _ => by simp [relTo])), HB⟩
      case round =>
        clear HR HB
        obtain ⟨k, hk, rfl, rfl, HR, HB⟩ := hrel
        have hlk := lateK_le us t L k
        by_cases hkn : k < n
        · obtain ⟨b, o, rfl, hb, hme, c0, c1⟩ := (h.below' HB.out hB).at_ hkn
          have hkz : (k : Int) < n := by omega
          have hkl : k < us.length := by rw [HL.out]; exact hkn
          have hbs := HB.out.size
          have hbr : b < wr.heap.size := by omega
          obtain ⟨hp1, hp2, hq1, hq2⟩ := period_pos HC.out hkl
          rw [us_parts HC.out hkl] at c0 c1
          dsimp only at c0 c1
          clear hme
          have hcl := HR.out.cell hkn
          rw [show relTo us t L k k = L k by simp [relTo]] at hcl
          have hcf := HR.out.free k
          have hgl : g < wr.heap.size := lt_blk HR.out
          have HLS := Lib.hid (lateK_succ us t L k)
          have HRN : Hid (∀ j, j ≠ k → relTo us t L (k + 1) j = relTo us t L k j) := Lib.hid (fun j hj => by
            unfold relTo
            by_cases h1 : j < k
            · rw [if_pos (by omega), if_pos h1]
            · rw [if_neg (by omega), if_neg h1])
          have HRK : Hid (relTo us t L (k + 1) k = relL us t L k) := Lib.hid (by unfold relTo; rw [if_pos (by omega)])
          generalize hP : pn us k = P at *
          have hPz : (P : Int) ≠ 0 := by omega
          by_cases hmod : t % P = 0
          · have d : ((t : Int) % (P : Int) == 0) = true := by
              have : (t : Int) % (P : Int) = ((t % P : Nat) : Int) := by simp
              rw [this, hmod]; rfl
            have hrk : relL us t L k = cn us k := by unfold relL; rw [hP, if_pos hmod]
            have HSET : Hid (∀ W : World, LRow W g n (relTo us t L k) → LRow (W.setCell ⟨g, k, none⟩ (.int .i64 (cn us k : Nat))) g n (relTo us t L (k + 1))) := Lib.hid (fun W hW => by
              have := hW.set (L' := relTo us t L (k + 1)) hkn HRN.out
              rw [HRK.out, hrk] at this
              exact this)
            have HRA := Lib.hid (HR.out.alloc (.cells #[.int .i64 (cn us k : Nat), .int .i64 (P : Nat)] 29))
            have HBA := Lib.hid (HB.out.alloc hbs (.cells #[.int .i64 (cn us k : Nat), .int .i64 (P : Nat)] 29))
            clear hrk HRN HRK
            by_cases hl0 : 0 < L k
            · have hlz : (0 : Int) < (L k : Int) := by omega
              have HLE : Hid (lateK us t L (k + 1) = lateK us t L k + 1) := Lib.hid (by rw [HLS.out, if_pos (by simp [lateP, hP, hmod, hl0])])
              generalize L k = lk at *
              clear HLS hmod hl0
              go_wp2
              go_roundw
              case rel => exact ⟨k + 1, by omega, by go_num, by rw [HLE.out]; simp; omega, Lib.hid ((HSET.out _ HR.out).alloc _), Lib.hid ((HB.out.setCell (p := ⟨g, k, none⟩) hgw _).alloc (by simpa using hbs) _)⟩
              case measure => simp [intOf]; omega
            · have hlz : L k = 0 := by omega
              have HLE : Hid (lateK us t L (k + 1) = lateK us t L k) := Lib.hid (by rw [HLS.out, if_neg (by simp [lateP, hlz])]; rfl)
              rw [hlz] at hcl
              clear HLS hmod hl0 hlz
              go_wp2
              go_roundw
              case rel => exact ⟨k + 1, by omega, by go_num, by rw [HLE.out], Lib.hid ((HSET.out _ HR.out).alloc _), Lib.hid ((HB.out.setCell (p := ⟨g, k, none⟩) hgw _).alloc (by simpa using hbs) _)⟩
              case measure => simp [intOf]; omega
          · have d : ((t : Int) % (P : Int) == 0) = false := by
              have : (t : Int) % (P : Int) = ((t % P : Nat) : Int) := by simp
              rw [this]; simp; omega
            have HRS : Hid (LRow (wr.alloc (.cells #[.int .i64 (cn us k : Nat), .int .i64 (P : Nat)] 29)) g n (relTo us t L (k + 1))) := Lib.hid ((HR.out.alloc _).same (fun i hi => by
              by_cases hik : i = k
              · subst hik
                rw [HRK.out]
                unfold relL
                rw [hP, if_neg hmod]
                simp [relTo]
              · exact HRN.out i hik))
            have HBS := Lib.hid (HB.out.alloc hbs (.cells #[.int .i64 (cn us k : Nat), .int .i64 (P : Nat)] 29))
            have HLE : Hid (lateK us t L (k + 1) = lateK us t L k) := Lib.hid (by rw [HLS.out]; simp [lateP, hP, hmod])
            clear HR HB hcl hmod
            go_wp2
            go_roundw
            case rel => exact ⟨k + 1, by omega, by go_num, by rw [HLE.out], HRS, HBS⟩
            case measure => simp [intOf]; omega
        · obtain rfl : k = n := by omega
          have HR2 : Hid (LRow wr g k (relL us t L)) := Lib.hid (HR.out.same (fun i hi => by simp [relTo, hi]))
          have HLK : Hid (lateK us t L k = lateK us t L us.length) := Lib.hid (by rw [HL.out])
          have HLB2 : Hid (∀ i, i < us.length → relL us t L i ≤ 30) := Lib.hid (fun i hi => by
            unfold relL; split
            · exact (period_pos HC.out hi).2.2.2
            · exact HLB.out i hi)
          have hlk2 : lateK us t L k ≤ 16 := by omega
          generalize lateK us t L k = lk at *
          generalize hL2 : relL us t L = L2 at *
          have HL2 := Lib.hid hL2
          obtain ⟨ls, hls⟩ : ∃ ls : Nat, ls = lt + lk := ⟨_, rfl⟩
          have hlsb : ls ≤ 2001 * 16 + 16 := by omega
          have HLS := Lib.hid hls
          rw [← hls]
          clear HR hL2 hls
          go_wp2
          go_loopw [12, 61] (fun v i wr => ∃ j : Nat, j ≤ k ∧ i = .int .i64 j ∧ v = .int .i64 (bz (bst us t L2 j)) ∧ Hid (LRow wr g k L2) ∧ Hid (Below w.heap.size w wr)) (fun _ i _ => k - (intOf i).toNat)
          case atStart => exact ⟨0, by omega, rfl, rfl, HR2, HB⟩
          case round =>
            clear HR2 HB
            obtain ⟨j, hj, rfl, rfl, HR2, HB⟩ := hrel
            by_cases hjn : j < k
            · obtain ⟨b, o, rfl, hb, hme, c0, c1⟩ := (h.below' HB.out hB).at_ hjn
              have hjz : (j : Int) < k := by omega
              have hjl : j < us.length := by rw [HL.out]; exact hjn
              have hbs := HB.out.size
              have hbr : b < wr.heap.size := by omega
              obtain ⟨hp1, hp2, hq1, hq2⟩ := period_pos HC.out hjl
              rw [us_parts HC.out hjl] at c0 c1
              dsimp only at c0 c1
              clear hme
              have hcl := HR2.out.cell hjn
              have hgl : g < wr.heap.size := lt_blk HR2.out
              obtain ⟨hb1, hb2⟩ := bst_some us t L2 j
              have HRA := Lib.hid (HR2.out.alloc (.cells #[.int .i64 (cn us j : Nat), .int .i64 (pn us j : Nat)] 29))
              have HBA := Lib.hid (HB.out.alloc hbs (.cells #[.int .i64 (cn us j : Nat), .int .i64 (pn us j : Nat)] 29))
              by_cases h0 : 0 < L2 j
              · have h0z : (0 : Int) < (L2 j : Int) := by omega
                generalize hlj : L2 j = lj at *
                cases hbo : bst us t L2 j with
                | none =>
                  have HBS : Hid (bst us t L2 (j + 1) = some j) := Lib.hid (by
                    conv => lhs; unfold bst
                    rw [hbo]; dsimp only; rw [if_pos (by omega)])
                  clear HR2 HB hb1 hb2 hbo
                  dsimp only [bz]
                  go_wp2
                  go_quiet (fail)
                  go_wp2
                  go_roundw
                  case rel => exact ⟨j + 1, by omega, by go_num, by rw [HBS.out], HRA, Lib.hid (lt_drewN HBA.out _)⟩
                  case measure => simp [intOf]; omega
                | some q =>
                  obtain ⟨hq3, hq4, _⟩ := hb1 q hbo
                  have hql : q < us.length := by omega
                  obtain ⟨b', o', e', hb', hme', c0', c1'⟩ := (h.below' HB.out hB).at_ (show q < k by omega)
                  injection e' with e'
                  injection e' with e1 e2
                  subst e1; subst e2
                  rw [us_parts HC.out hql] at c0' c1'
                  dsimp only at c0' c1'
                  clear hme'
                  have hqz : (0 : Int) ≤ (q : Int) := by omega
                  have hqk : (q : Int) < (k : Int) := by omega
                  obtain ⟨hpq1, hpq2, _, _⟩ := period_pos HC.out hql
                  have hw1 := due_wrap (i := j) (show t ≤ 2000 by omega) hp2
                  have hw2 := due_wrap (i := q) (show t ≤ 2000 by omega) hpq2
                  have HBS : Hid (bst us t L2 (j + 1) = if due us t j < due us t q then some j else some q) := Lib.hid (by
                    conv => lhs; unfold bst
                    rw [hbo]; dsimp only
                    by_cases hx : due us t j < due us t q
                    · rw [if_pos ⟨by omega, hx⟩, if_pos hx]
                    · rw [if_neg (fun h => hx h.2), if_neg hx])
                  generalize hPj : pn us j = P at *
                  generalize hPq : pn us q = Q at *
                  generalize due us t j = dj at *
                  generalize due us t q = dq at *
                  have hPz : (P : Int) ≠ 0 := by omega
                  have hQz : (Q : Int) ≠ 0 := by omega
                  have ha1 := Nat.div_le_self t P
                  have ha2 := Nat.div_le_self t Q
                  have he1 : (t : Int) / (P : Int) = ((t / P : Nat) : Int) := by simp
                  have he2 : (t : Int) / (Q : Int) = ((t / Q : Nat) : Int) := by simp
                  generalize t / P = a1 at *
                  generalize t / Q = a2 at *
                  dsimp only [bz]
                  have hqn : ¬ (q : Int) < 0 := by omega
                  have hP0 : ¬ P = 0 := by omega
                  have hQ0 : ¬ Q = 0 := by omega
                  have hv1 : IntKind.i64.wrap (a1 : Int) = (a1 : Int) := IntWalk.i64_in _ (by omega)
                  have hv2 : IntKind.i64.wrap (a2 : Int) = (a2 : Int) := IntWalk.i64_in _ (by omega)
                  have hx1 : IntKind.i64.wrap ((a1 : Int) + 1) = (a1 : Int) + 1 := IntWalk.i64_in _ (by omega)
                  have hx2 : IntKind.i64.wrap ((a2 : Int) + 1) = (a2 : Int) + 1 := IntWalk.i64_in _ (by omega)
                  clear hPj hPq hb1 hb2 hbo hlj
                  have dq0 : decide ((q : Int) < 0) = false := by simp
                  by_cases hd : dj < dq
                  · have HBS2 := Lib.hid (HBS.out.trans (if_pos hd))
                    have d : decide (dj < dq) = true := by simpa using hd
                    clear HBS
                    go_wp2
                    go_quiet (fail)
                    clear hd d
                    go_wp2
                    go_roundw
                    case rel => exact ⟨j + 1, by omega, by go_num, by rw [HBS2.out], HRA, Lib.hid (lt_drewN HBA.out _)⟩
                    case measure => simp [intOf]; omega
                  · have HBS2 := Lib.hid (HBS.out.trans (if_neg hd))
                    have d : decide (dj < dq) = false := by simpa using hd
                    clear HBS
                    go_wp2
                    go_quiet (fail)
                    clear hd d
                    go_wp2
                    go_roundw
                    case rel => exact ⟨j + 1, by omega, by go_num, by rw [HBS2.out], HRA, Lib.hid (lt_drewN HBA.out _)⟩
                    case measure => simp [intOf]; omega
              · have hz : L2 j = 0 := by omega
                rw [hz] at hcl
                have HBS : Hid (bst us t L2 (j + 1) = bst us t L2 j) := Lib.hid (by
                  conv => lhs; unfold bst
                  cases bst us t L2 j <;> simp [hz])
                generalize bst us t L2 j = bo at *
                clear h0 HR2 HB hb1 hb2
                go_wp2
                go_quiet (fail)
                go_wp2
                go_roundw
                case rel => exact ⟨j + 1, by omega, by go_num, by rw [HBS.out], HRA, Lib.hid (lt_drewN HBA.out _)⟩
                case measure => simp [intOf]; omega
            · obtain rfl : j = k := by omega
              obtain ⟨hb1, hb2⟩ := bst_some us t L2 j
              have HBE : Hid (bst us t L2 j = bst us t L2 us.length) := Lib.hid (by rw [HL.out])
              have hgl : g < wr.heap.size := lt_blk HR2.out
              have HNX : Hid (runL us (t + 1) = ⟨cutL (bst us t L2 j) L2, ls⟩) := Lib.hid (by rw [HRD.out, HBE.out, HLS.out, HLK.out]; unfold round; dsimp only; rw [HL2.out])
              cases hbo : bst us t L2 j with
              | none =>
                rw [hbo] at HNX
                dsimp only [bz]
                clear hb1 hb2 hbo HBE HRD HLK HL2
                go_wp2
                go_roundw
                case rel => exact ⟨t + 1, by omega, by go_num, by rw [HNX.out], Lib.hid (by rw [HNX.out]; exact HR2.out), HB⟩
                case measure => simp [intOf]; omega
              | some q =>
                rw [hbo] at HNX
                obtain ⟨hq3, hq4, _⟩ := hb1 q hbo
                have hqz : (0 : Int) ≤ (q : Int) := by omega
                have hqk : (q : Int) < (j : Int) := by omega
                have hcq := HR2.out.cell hq3
                have hcf := HR2.out.free q
                have hl30 := HLB2.out q (by rw [HL.out]; exact hq3)
                have HST : Hid (LRow (wr.setCell ⟨g, q, none⟩ (.int .i64 ((L2 q : Int) - 1))) g j (cutL (some q) L2)) := Lib.hid (by
                  have := HR2.out.set (L' := cutL (some q) L2) hq3 (fun i hi => by simp [cutL, hi])
                  have e : ((cutL (some q) L2 q : Nat) : Int) = (L2 q : Int) - 1 := by
                    have : cutL (some q) L2 q = L2 q - 1 := by simp [cutL]
                    rw [this]; omega
                  rw [e] at this
                  exact this)
                have HBS := Lib.hid (HB.out.setCell hgw (p := ⟨g, q, none⟩) (.int .i64 ((L2 q : Int) - 1)))
                generalize L2 q = lq at *
                dsimp only [bz]
                clear hb1 hb2 hbo HBE HRD HLK HL2 HR2 HB
                go_wp2
                go_roundw
                case rel => exact ⟨t + 1, by omega, by go_num, by rw [HNX.out], Lib.hid (by rw [HNX.out]; exact HST.out), HBS⟩
                case measure => simp [intOf]; omega
    · obtain rfl : t = T + 1 := by omega
      have hlo : lateOf us (T : Int) = (runL us (T + 1)).late := by unfold lateOf; rw [if_pos HE.out]; rfl
      have HLO := Lib.hid hlo
      clear hlo
      generalize (runL us (T + 1)).late = lt at *
      go_wp2
      go_ret2
      exact ⟨by rw [HE.out, HLO.out]; rfl, HB.out⟩
end Go.Proofs.Ytnfmnocmglggdaa
