/- One end of a stream, the reference: contracts of Begun and Given. -/
import Derived.Test.YthlhjaacjhlkhaaStR
namespace Go.Proofs.Ythlhjaacjhlkhaa
open Go.RowKit
set_option maxHeartbeats 400000
set_option linter.unusedVariables false
set_option linter.unusedSimpArgs false
def sm0 : Sm := ⟨0, 0, 0, [], [], 0, 0, 0, 0, 0, false, false, false, 0, 0⟩
section
variable {w : World} {B q : Nat} {s : Sm} {vo vi : Value} {m : Nat}
set_option maxRecDepth 100000 in
theorem rbegun (h : RSt w B q sm0 vo vi) (st iss : Int) : Calls Try.prog 39 #[.pointer (some ⟨q, 0, none⟩), .int .i64 st, .int .u32 iss] w (RRet 0 w B q vo vi (Sm.start st iss)) := by
  have hc := (Ob2.blk h).cell
  have hf := (Ob2.blk h).free
  have hlt := (Ob2.blk h).lt
  dsimp only [rcells, sm0] at hc
  have HX : Hid (RSGo w B q vo vi (Sm.start st iss) ((w.setCell ⟨q, 0, none⟩ (.int .i64 st)).setCell ⟨q, 1, none⟩ (.int .u32 iss))) := Lib.hid (by
    have a1 := Ob2.set1 (cs' := rcells { sm0 with st := st }) h 0 (.int .i64 st) (by simp [rcells, sm0])
    have a2 := Ob2.set1 (cs' := rcells (Sm.start st iss)) a1.1 1 (.int .u32 iss) (by simp [rcells, sm0, Sm.start])
    exact (a1.2.trans a2.2).go a2.1)
  clear h
  go_enter Try.func39, Try.ntmps39
  go_wp2
  go_ret
  exact ⟨rfl, HX.out⟩
def RWrP (n er : Int) (w : World) (B q : Nat) (vo vi : Value) (s' : Sm) (e : Ending) (w' : World) : Prop := e = .returned (.tuple #[.int .i64 n, .int .i64 er]) ∧ RSGo w B q vo vi s' w'
theorem room_int (s : Sm) (h : s.said.length - s.acked ≤ 64) (hl : s.said.length ≤ 1000000) : wrap64 (64 - wrap64 ((s.said.length : Int) - s.acked)) = (s.roomN : Int) := by
  have := s.acked_le
  unfold Sm.roomN wrap64
  omega
set_option maxHeartbeats 2000000 in
set_option maxRecDepth 100000 in
theorem rgiven (h : RSt w B q s vo vi) (hB : B ≤ w.heap.size) (hm : s.una ≤ 1000000) (hl : s.said.length ≤ 1000000) (hr : s.said.length - s.acked ≤ 64) (A : Option Addr) (n c : Nat) (ds : List Int) (hd : RB w B A n ds) (hnc : n ≤ c) (hcm : c ≤ 9223372036854775807) :
    Calls Try.prog 42 #[.pointer (some ⟨q, 0, none⟩), .slice A n c] w (RWrP (if s.givenE ds = 0 then s.givenN ds else 0) (s.givenE ds) w B q vo vi (s.givenS ds)) := by
  obtain ⟨i0, ii, hz0, hz1, hz2⟩ := info_parts pu8info
  have HS := Lib.hid (Ob2.same h (Below.refl _ w))
  have HSB := Lib.hid (fun w' (hb : Below w.heap.size w w') => Ob2.same h hb)
  have HK := Lib.hid (fun w' (hb : Below w.heap.size w w') => racked (Ob2.grow h hb) hm hl)
  have HG := Lib.hid h
  have HGW := Lib.hid (fun w' (hb : Below w.heap.size w w') => Ob2.grow h hb)
  have hln := hd.len
  have HRM := Lib.hid (room_int s hr hl)
  obtain ⟨A0, c0, A', c', rfl, rfl, h1, h2, h3, h4⟩ := h.look
  have hc := (Ob2.blk h).cell
  have hlt := (Ob2.blk h).lt
  dsimp only [rcells] at hc
  clear h
  by_cases hn : 256 < n
  · have e1 : s.givenE ds = 1 := if_pos (by rw [hln]; exact hn)
    have e2 : s.givenS ds = s := if_neg (by rw [e1]; decide)
    rw [e1, e2, if_neg (by decide)]
    have d1 : decide (256 < (n : Int)) = true := by simp; omega
    clear e1 e2 hn
    go_enter Try.func42, Try.ntmps42
    go_wp2
    go_ret2
    exact ⟨rfl, HS.out⟩
  have d1 : decide (256 < (n : Int)) = false := by simp; omega
  have n1 : ¬ 256 < ds.length := by rw [hln]; exact hn
  by_cases hs : s.st = 5
  · have e1 : s.givenE ds = 10 := (if_neg n1).trans (if_pos hs)
    have e2 : s.givenS ds = s := if_neg (by rw [e1]; decide)
    rw [e1, e2, if_neg (by decide)]
    have d2 : (s.st == 5) = true := by simpa using hs
    clear e1 e2 hn hs
    go_enter Try.func42, Try.ntmps42
    go_wp2
    go_ret2
    exact ⟨rfl, HS.out⟩
  have d2 : (s.st == 5) = false := by simpa using hs
  by_cases hs2 : s.st < 2
  · have e1 : s.givenE ds = 8 := (if_neg n1).trans ((if_neg hs).trans (if_pos (.inl hs2)))
    have e2 : s.givenS ds = s := if_neg (by rw [e1]; decide)
    rw [e1, e2, if_neg (by decide)]
    have d3 : decide (s.st < 2) = true := by simpa using hs2
    clear e1 e2 hn hs hs2
    go_enter Try.func42, Try.ntmps42
    go_wp2
    go_ret2
    exact ⟨rfl, HS.out⟩
  have d3 : decide (s.st < 2) = false := by simpa using hs2
  cases hsh : s.shut with
  | true =>
    have e1 : s.givenE ds = 8 := (if_neg n1).trans ((if_neg hs).trans (if_pos (.inr hsh)))
    have e2 : s.givenS ds = s := if_neg (by rw [e1]; decide)
    rw [e1, e2, if_neg (by decide)]
    rw [hsh] at hc
    clear e1 e2 hn hs hs2 hsh
    go_enter Try.func42, Try.ntmps42
    go_wp2
    go_ret2
    exact ⟨rfl, HS.out⟩
  | false =>
  rw [hsh] at hc
  have hsn : ¬ (s.st < 2 ∨ s.shut = true) := by rw [hsh]; simp; omega
  obtain ⟨rm, hrm⟩ : ∃ rm, s.roomN = rm := ⟨_, rfl⟩
  by_cases hw : s.roomN = 0 ∧ 0 < ds.length
  · have e1 : s.givenE ds = 9 := (if_neg n1).trans ((if_neg hs).trans ((if_neg hsn).trans (if_pos hw)))
    have e2 : s.givenS ds = s := if_neg (by rw [e1]; decide)
    rw [e1, e2, if_neg (by decide)]
    rw [hw.1] at HRM
    have hn0 : 0 < n := by rw [← hln]; exact hw.2
    generalize s.acked = ak at *
    generalize s.said.length = l at *
    clear e1 e2 hn hs hs2 hsh hw hrm hsn n1
    go_enter Try.func42, Try.ntmps42
    go_wp2_with fail
    refine wp_region_near w.heap.size (by kernel_rfl) (by kernel_rfl) ?_
    repeat (go_big_quiet_step (first | (go_at_call 94; exact Calls.near_same (HK.out _ (Near.prop _)))))
    refine wpQuiet_nil ?_
    intro w1 hb1
    rw [HRM.out]
    have HB1 := Lib.hid hb1
    clear hb1 hc
    go_wp2
    go_ret2
    exact ⟨rfl, HSB.out _ HB1.out⟩
  have e1 : s.givenE ds = 0 := (if_neg n1).trans ((if_neg hs).trans ((if_neg hsn).trans (if_neg hw)))
  obtain ⟨nn, hnn⟩ : ∃ nn, min ds.length s.roomN = nn := ⟨_, rfl⟩
  have e3 : s.givenN ds = nn := hnn
  have e2 : s.givenS ds = { s with said := s.said ++ ds.take nn } := (if_pos e1).trans (by rw [e3])
  rw [e2, e1, if_pos rfl, e3]
  have hrm64 : rm ≤ 64 := by rw [← hrm]; unfold Sm.roomN; omega
  rw [hrm] at hnn HRM hw
  have hnnc : nn ≤ c := by omega
  have hnn64 : nn ≤ n := by omega
  have HBY := Lib.hid (byt_app (Ob2.bo HG.out) (byt_take hd.2 nn))
  have HRD := Lib.hid (by simpa using hd.1.take (k := nn) hnn64 : Reads w B 1 A nn ((ds.map (Value.int .u8)).take nn))
  have HFIN : Hid (∀ w0 w1 A1 c1 W, Below w.heap.size w w0 → RSt w0 B q s (.slice A0 s.said.length c0) (.slice A' s.got.length c') → Fr (fun k => (Value.slice A0 s.said.length c0).ownBlock = some k) w0 w1 → Row w1 B 5 1 (.slice A1 (s.said.length + nn) c1) (s.said.length + nn) (s.said.map (Value.int .u8) ++ (ds.map (Value.int .u8)).take nn) →
      (∀ k, (Value.slice A1 (s.said.length + nn) c1).ownBlock = some k → (Value.slice A0 s.said.length c0).ownBlock = some k ∨ w0.heap.size ≤ k) → (W = w1.setCell ⟨q, 3, none⟩ (.slice A1 (s.said.length + nn) c1) ∨ W = (w1.setCell ⟨q, 3, none⟩ (.slice A1 (s.said.length + nn) c1)).drew) →
      RSGo w B q (.slice A0 s.said.length c0) (.slice A' s.got.length c') { s with said := s.said ++ ds.take nn } W) := Lib.hid (fun w0 w1 A1 c1 W hw0 h0 hf hr ho hW => by
    have el : (s.said ++ ds.take nn).length = s.said.length + nn := by rw [List.length_append, List.length_take]; omega
    have em : (s.said ++ ds.take nn).map (Value.int .u8) = s.said.map (Value.int .u8) ++ (ds.map (Value.int .u8)).take nn := by rw [List.map_append, List.map_take]
    have hb1 := (h0.blk.fr hf h0.no).set 3 (.slice A1 (s.said.length + nn) c1)
    refine Ob2Go.of_grow hw0 ?_
    rcases hW with rfl | rfl
    · exact Ob2.setO (cs' := rcells { s with said := s.said ++ ds.take nn }) h0 hf (by rw [el, em]; exact hr) HBY.out ho ((Fr.refl (fun k => k = q) w1).setCell (p := ⟨q, 3, none⟩) (fun _ => rfl) _) hb1 (by simp [rcells])
    · exact Ob2.setO (cs' := rcells { s with said := s.said ++ ds.take nn }) h0 hf (by rw [el, em]; exact hr) HBY.out ho (((Fr.refl (fun k => k = q) w1).setCell (p := ⟨q, 3, none⟩) (fun _ => rfl) _).drew) hb1.drew (by simp [rcells]))
  have HONE := Lib.hid (u8_oneCell ds)
  have hd8 : Hid (∀ u ∈ (ds.map (Value.int .u8)).take nn, u.oneCell' = true) := Lib.hid (fun u hu => HONE.out u (List.mem_of_mem_take hu))
  have hmn : nn = min n rm := by rw [← hnn, hln]
  generalize (ds.map (Value.int .u8)).take nn = news at *
  generalize s.acked = ak at *
  generalize hl0 : s.said.length = l at *
  rw [hln] at hw
  have tt : decide ((n : Int) < rm) = decide (n < rm) := by simp
  clear e1 e2 e3 hn hs hs2 hsh hrm hsn n1 hd hln hnn HS HSB
  by_cases hlt2 : n < rm
  · have hnnE : nn = n := by omega
    have d5 : decide ((n : Int) < rm) = true := by simp; omega
    subst hnnE
    clear tt hmn hw
    rcases (by omega : nn = 0 ∨ 0 < nn) with hn0 | hn0
    · have hn1 : ¬ 0 < nn := by omega
      have d6 : ((rm : Int) == 0) = false := by rw [beq_eq_false_iff_ne]; omega
      clear hn0
      go_enter Try.func42, Try.ntmps42
      go_wp2_with fail
      refine wp_region_near w.heap.size (by kernel_rfl) (by kernel_rfl) ?_
      repeat (go_big_quiet_step (first | (go_at_call 94; exact Calls.near_same (HK.out _ (Near.prop _)))))
      refine wpQuiet_nil ?_
      intro w1 hb1
      rw [HRM.out]
      have HB1 := Lib.hid hb1
      have HG1 := Lib.hid (HGW.out w1 hb1)
      have HRW : Hid (Row w1 B 5 1 (.slice A0 l c0) l (s.said.map (Value.int .u8))) := Lib.hid (by have h0 := Ob2.ro (HGW.out w1 hb1); rw [hl0] at h0; exact h0)
      have HR1 := Lib.hid (HRD.out.below' hb1 hB)
      have hBw : B ≤ w1.heap.size := Nat.le_trans hB hb1.size
      have hc1 : w1.cell? ⟨q, 3, none⟩ = some (.slice A0 l c0) := (HGW.out w1 hb1).blk.cell 3
      have hlt1 := (HGW.out w1 hb1).blk.lt
      clear hb1 hc hlt
      go_wp2
      go_region_law (refine step_append_row rfl (.tmp 52) (.tmp 55) 23 rfl B 5 i0 (.int .u8 0) 1 1 Try.underlying23 ii hz0 hz1 hz2 rfl (by decide) (.slice A0 l c0) l (s.said.map (Value.int .u8)) (by simp [Act.eval, Act.put]) HRW.out.drew B A nn c news (by simp [Act.eval, Act.put]) HR1.out.drew hd8.out (by unfold maxLen; omega) (by omega) (by simpa using hBw) ?_; intro A9 c9 w9 hr9 hg9 ho9; have hf9 : Fr (fun k => (Value.slice A0 l c0).ownBlock = some k) w1 w9 := ((Fr.refl _ w1).drew).grown hg9 (fun k e _ => e); have kb9 := HG1.out.blk.fr hf9 HG1.out.no; have k96 : w9.cell? ⟨q, 3, none⟩ = some (.slice A0 l c0) := kb9.cell 3; have kl9 := kb9.lt; have kf9 := kb9.free 3)
      all_goals
        go_wp2
        go_ret2
        exact ⟨rfl, HFIN.out w1 w9 A9 c9 _ HB1.out HG1.out hf9 hr9 (fun k hk => by rcases own_cases ho9 hk with h1 | h1; exact .inl h1; simp at h1; exact .inr (by omega)) (by first | exact .inl rfl | exact .inr rfl)⟩
    · have d6 : ((rm : Int) == 0) = false := by rw [beq_eq_false_iff_ne]; omega
      go_enter Try.func42, Try.ntmps42
      go_wp2_with fail
      refine wp_region_near w.heap.size (by kernel_rfl) (by kernel_rfl) ?_
      repeat (go_big_quiet_step (first | (go_at_call 94; exact Calls.near_same (HK.out _ (Near.prop _)))))
      refine wpQuiet_nil ?_
      intro w1 hb1
      rw [HRM.out]
      have HB1 := Lib.hid hb1
      have HG1 := Lib.hid (HGW.out w1 hb1)
      have HRW : Hid (Row w1 B 5 1 (.slice A0 l c0) l (s.said.map (Value.int .u8))) := Lib.hid (by have h0 := Ob2.ro (HGW.out w1 hb1); rw [hl0] at h0; exact h0)
      have HR1 := Lib.hid (HRD.out.below' hb1 hB)
      have hBw : B ≤ w1.heap.size := Nat.le_trans hB hb1.size
      have hc1 : w1.cell? ⟨q, 3, none⟩ = some (.slice A0 l c0) := (HGW.out w1 hb1).blk.cell 3
      have hlt1 := (HGW.out w1 hb1).blk.lt
      clear hb1 hc hlt
      go_wp2
      go_region_law (refine step_append_row rfl (.tmp 52) (.tmp 55) 23 rfl B 5 i0 (.int .u8 0) 1 1 Try.underlying23 ii hz0 hz1 hz2 rfl (by decide) (.slice A0 l c0) l (s.said.map (Value.int .u8)) (by simp [Act.eval, Act.put]) HRW.out.drew B A nn c news (by simp [Act.eval, Act.put]) HR1.out.drew hd8.out (by unfold maxLen; omega) (by omega) (by simpa using hBw) ?_; intro A9 c9 w9 hr9 hg9 ho9; have hf9 : Fr (fun k => (Value.slice A0 l c0).ownBlock = some k) w1 w9 := ((Fr.refl _ w1).drew).grown hg9 (fun k e _ => e); have kb9 := HG1.out.blk.fr hf9 HG1.out.no; have k96 : w9.cell? ⟨q, 3, none⟩ = some (.slice A0 l c0) := kb9.cell 3; have kl9 := kb9.lt; have kf9 := kb9.free 3)
      all_goals
        go_wp2
        go_ret2
        exact ⟨rfl, HFIN.out w1 w9 A9 c9 _ HB1.out HG1.out hf9 hr9 (fun k hk => by rcases own_cases ho9 hk with h1 | h1; exact .inl h1; simp at h1; exact .inr (by omega)) (by first | exact .inl rfl | exact .inr rfl)⟩
  · have hnnE : nn = rm := by omega
    have d5 : decide ((n : Int) < rm) = false := by simp; omega
    subst hnnE
    clear tt hmn
    rcases (by omega : n = 0 ∨ 0 < n) with hn0 | hn0
    · have hn1 : ¬ 0 < n := by omega
      have hr0 : nn = 0 := by omega
      clear hn0 hw
      subst hr0
      go_enter Try.func42, Try.ntmps42
      go_wp2_with fail
      refine wp_region_near w.heap.size (by kernel_rfl) (by kernel_rfl) ?_
      repeat (go_big_quiet_step (first | (go_at_call 94; exact Calls.near_same (HK.out _ (Near.prop _)))))
      refine wpQuiet_nil ?_
      intro w1 hb1
      rw [HRM.out]
      have HB1 := Lib.hid hb1
      have HG1 := Lib.hid (HGW.out w1 hb1)
      have HRW : Hid (Row w1 B 5 1 (.slice A0 l c0) l (s.said.map (Value.int .u8))) := Lib.hid (by have h0 := Ob2.ro (HGW.out w1 hb1); rw [hl0] at h0; exact h0)
      have HR1 := Lib.hid (HRD.out.below' hb1 hB)
      have hBw : B ≤ w1.heap.size := Nat.le_trans hB hb1.size
      have hc1 : w1.cell? ⟨q, 3, none⟩ = some (.slice A0 l c0) := (HGW.out w1 hb1).blk.cell 3
      have hlt1 := (HGW.out w1 hb1).blk.lt
      clear hb1 hc hlt
      go_wp2
      go_region_law (refine step_append_row rfl (.tmp 52) (.tmp 55) 23 rfl B 5 i0 (.int .u8 0) 1 1 Try.underlying23 ii hz0 hz1 hz2 rfl (by decide) (.slice A0 l c0) l (s.said.map (Value.int .u8)) (by simp [Act.eval, Act.put]) HRW.out.drew B A 0 c news (by simp [Act.eval, Act.put]) HR1.out.drew hd8.out (by unfold maxLen; omega) (by omega) (by simpa using hBw) ?_; intro A9 c9 w9 hr9 hg9 ho9; have hf9 : Fr (fun k => (Value.slice A0 l c0).ownBlock = some k) w1 w9 := ((Fr.refl _ w1).drew).grown hg9 (fun k e _ => e); have kb9 := HG1.out.blk.fr hf9 HG1.out.no; have k96 : w9.cell? ⟨q, 3, none⟩ = some (.slice A0 l c0) := kb9.cell 3; have kl9 := kb9.lt; have kf9 := kb9.free 3)
      all_goals
        go_wp2
        go_ret2
        exact ⟨rfl, HFIN.out w1 w9 A9 c9 _ HB1.out HG1.out hf9 hr9 (fun k hk => by rcases own_cases ho9 hk with h1 | h1; exact .inl h1; simp at h1; exact .inr (by omega)) (by first | exact .inl rfl | exact .inr rfl)⟩
    · have d6 : ((nn : Int) == 0) = false := by rw [beq_eq_false_iff_ne]; omega
      clear hw
      go_enter Try.func42, Try.ntmps42
      go_wp2_with fail
      refine wp_region_near w.heap.size (by kernel_rfl) (by kernel_rfl) ?_
      repeat (go_big_quiet_step (first | (go_at_call 94; exact Calls.near_same (HK.out _ (Near.prop _)))))
      refine wpQuiet_nil ?_
      intro w1 hb1
      rw [HRM.out]
      have HB1 := Lib.hid hb1
      have HG1 := Lib.hid (HGW.out w1 hb1)
      have HRW : Hid (Row w1 B 5 1 (.slice A0 l c0) l (s.said.map (Value.int .u8))) := Lib.hid (by have h0 := Ob2.ro (HGW.out w1 hb1); rw [hl0] at h0; exact h0)
      have HR1 := Lib.hid (HRD.out.below' hb1 hB)
      have hBw : B ≤ w1.heap.size := Nat.le_trans hB hb1.size
      have hc1 : w1.cell? ⟨q, 3, none⟩ = some (.slice A0 l c0) := (HGW.out w1 hb1).blk.cell 3
      have hlt1 := (HGW.out w1 hb1).blk.lt
      clear hb1 hc hlt
      go_wp2
      go_region_law (refine step_append_row rfl (.tmp 52) (.tmp 55) 23 rfl B 5 i0 (.int .u8 0) 1 1 Try.underlying23 ii hz0 hz1 hz2 rfl (by decide) (.slice A0 l c0) l (s.said.map (Value.int .u8)) (by simp [Act.eval, Act.put]) HRW.out.drew B A nn c news (by simp [Act.eval, Act.put]) HR1.out.drew hd8.out (by unfold maxLen; omega) (by omega) (by simpa using hBw) ?_; intro A9 c9 w9 hr9 hg9 ho9; have hf9 : Fr (fun k => (Value.slice A0 l c0).ownBlock = some k) w1 w9 := ((Fr.refl _ w1).drew).grown hg9 (fun k e _ => e); have kb9 := HG1.out.blk.fr hf9 HG1.out.no; have k96 : w9.cell? ⟨q, 3, none⟩ = some (.slice A0 l c0) := kb9.cell 3; have kl9 := kb9.lt; have kf9 := kb9.free 3)
      all_goals
        go_wp2
        go_ret2
        exact ⟨rfl, HFIN.out w1 w9 A9 c9 _ HB1.out HG1.out hf9 hr9 (fun k hk => by rcases own_cases ho9 hk with h1 | h1; exact .inl h1; simp at h1; exact .inr (by omega)) (by first | exact .inl rfl | exact .inr rfl)⟩
end
end Go.Proofs.Ythlhjaacjhlkhaa

